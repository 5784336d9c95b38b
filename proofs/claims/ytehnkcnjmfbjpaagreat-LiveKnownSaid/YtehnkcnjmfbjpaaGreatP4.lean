/- Texts of this seat, joined (part 4 of 6): an abstract memory for Go programs, this seat's functions as abstract code, and what each of them does. -/
import Derived.Test.YtehnkcnjmfbjpaaGreatP3
set_option linter.unusedSimpArgs false
set_option linter.defProp false
section
namespace Go.Proofs.YtehnkcnjmfbjpaaGreat
open Go Go.Adm
set_option linter.unusedSimpArgs false
set_option linter.unusedVariables false
set_option maxRecDepth 100000
theorem rdb_ap {X : List Nat} {m m' : Mem} {x : AV} {l : List B8} (h : RdB m x l) (hk : Kept X m m') (ha : ∀ b ∈ blkOf x, b ∉ X) : RdB m' x l :=
 h.kept hk fun b o n cap s e => ha b (by rw [e]; simp [blkOf])
def nE (b : List B8) : Int := intB ((b.drop 1).take 8)
def nN (b : List B8) : Int := intB ((b.drop 9).take 8)
open Classical in
noncomputable def getE (c : CyS) (k a : Int) (b : List B8) : Int :=
 if b.length < 17 then 2 else if b.length > 1024 then 3 else if k = 0 ∨ kindB b ≠ k then 5 else if ¬ rightP (nE b) (nN b) a then 7 else
 match cyOp c (nE b) (nN b) (headB k a.toNat) (b.drop 17) with
 | none => 19
 | some _ => 0
def sec0 : Sec := ⟨0, 0, 0, 0, []⟩
open Classical in
noncomputable def getS (c : CyS) (k a : Int) (b : List B8) : Sec :=
 if getE c k a b = 0 then ⟨k, nE b, nN b, a, (cyOp c (nE b) (nN b) (headB k a.toNat) (b.drop 17)).getD []⟩ else sec0
theorem ans_scgetS {m : Mem} {x : Nat} {W R : List Nat} {c : CyS} {k a : Int} {y : AV} {b : List B8} (hC : Cy m x W R c) (hy : RdB m y b) (hk : cyOk c 1000) (hl : b.length ≤ 100000) :
  Ans Tryz.prog 45 [.iface (cyT c) (.ptr x 0), .int .i64 k, .int .i64 a, y] m fun r m' => Kept [] m m' ∧ ∃ w, r = .tup [secV (getS c k a b) w, .int .i64 (getE c k a b)] ∧ SPb m.length m' w (getS c k a b).p := by
 refine ans_ret mixed ok45 ?_
 have hno : ∀ (m' : Mem) (er : Int), er ≠ 0 → getE c k a b = er → Kept [] m m' → Kept [] m m' ∧ ∃ w, AV.tup [.agg [.int .i64 0, .int .i64 0, .int .i64 0, .int .i64 0, .nils], .int .i64 er] = .tup [secV (getS c k a b) w, .int .i64 (getE c k a b)] ∧ SPb m.length m' w (getS c k a b).p := fun m' er h0 he hk => by
  rw [he]
  have hs : getS c k a b = sec0 := by rw [getS, he, if_neg h0]
  rw [hs]
  exact ⟨hk, .nils, rfl, .inl ⟨rfl, rfl⟩⟩
 by_cases h1 : b.length < 17
 ·have he : getE c k a b = 2 := by rw [getE, if_pos h1]
  simp -implicitDefEqProofs (disch := (first | omega | (simp only [lq3] <;> omega) | fail)) only [admQ, lq3, aFill, AK.cls, implies_true, if_true, if_false, seval, -List.reduceReplicate, c45, r45, hy.len, dec_t (show (b.length : Int) < 17 by omega)]
  exact hno _ _ (by omega) he (.app _ _ _)
 by_cases h2 : b.length > 1024
 ·have he : getE c k a b = 3 := by rw [getE, if_neg h1, if_pos h2]
  simp -implicitDefEqProofs (disch := (first | omega | (simp only [lq3] <;> omega) | fail)) only [admQ, lq3, aFill, AK.cls, implies_true, if_true, if_false, seval, -List.reduceReplicate, c45, r45, hy.len, dec_f (show ¬ (b.length : Int) < 17 by omega), dec_t (show (b.length : Int) > 1024 by omega)]
  exact hno _ _ (by omega) he (.app _ _ _)
 by_cases h3 : k = 0
 ·have he : getE c k a b = 5 := by rw [getE, if_neg h1, if_neg h2, if_pos (.inl h3)]
  simp -implicitDefEqProofs (disch := (first | omega | (simp only [lq3] <;> omega) | fail)) only [admQ, lq3, aFill, AK.cls, implies_true, if_true, if_false, seval, -List.reduceReplicate, c45, r45, hy.len, dec_f (show ¬ (b.length : Int) < 17 by omega), dec_f (show ¬ (b.length : Int) > 1024 by omega), beq_iff_eq.mpr h3]
  exact hno _ _ (by omega) he (.app _ _ _)
 simp -implicitDefEqProofs (disch := (first | omega | (simp only [lq3] <;> omega) | fail)) only [admQ, lq3, aFill, AK.cls, implies_true, if_true, if_false, seval, -List.reduceReplicate, c45, r45, hy.len, dec_f (show ¬ (b.length : Int) < 17 by omega), dec_f (show ¬ (b.length : Int) > 1024 by omega), beq_eq_false_iff_ne.mpr h3]
 have k0 := Kept.app [] m [Blk.row [.int .i64 0, .int .i64 0, .int .i64 0, .int .i64 0, .nils] false]
 have o0 : own (m ++ [Blk.row [.int .i64 0, .int .i64 0, .int .i64 0, .int .i64 0, .nils] false]) m.length = some [.int .i64 0, .int .i64 0, .int .i64 0, .int .i64 0, .nils] := by rw [own_app_at0]; rfl
 generalize m ++ [Blk.row [.int .i64 0, .int .i64 0, .int .i64 0, .int .i64 0, .nils] false] = A at k0 o0
 have hyA := hy.kept0 k0
 refine (ans_sckind hyA).mono ?_
 rintro _ M ⟨rfl, hM⟩
 subst hM
 by_cases h4 : kindB b = k
 ·obtain ⟨q, o, cap, sl, cc, rfl, hrow, hat, hlen, hcap, hsl, htk⟩ := hyA.cons (i := 0) (by omega)
  have hsub : RdB M (.sl q (o + 1) 16 (cap - 1) sl) ((b.drop 1).take 16) := by
   have hd := hyA.drop (k := 1) (by omega)
   have h := hd.take (k := 16) (by omega)
   exact h
  simp -implicitDefEqProofs (disch := (first | omega | (simp only [lq3] <;> omega) | fail)) only [admQ, lq3, aFill, AK.cls, implies_true, if_true, if_false, seval, -List.reduceReplicate, beq_eq_false_iff_ne.mpr h3, beq_iff_eq.mpr h4, Bool.not_true]
  have hl16 : ((b.drop 1).take 16).length = 16 := by rw [List.length_take, List.length_drop]; omega
  refine (ans_pread hsub (by omega)).mono ?_
  rintro _ m1 ⟨k1, p, rfl, hp, hR1⟩
  simp -implicitDefEqProofs (disch := (first | omega | (simp only [lq3] <;> omega) | fail)) only [admQ, lq3, aFill, AK.cls, implies_true, if_true, if_false, seval, -List.reduceReplicate]
  refine (ans_print hR1 (by omega)).mono ?_
  rintro _ m2 ⟨rfl, k2, hR2⟩
  simp -implicitDefEqProofs (disch := (first | omega | (simp only [lq3] <;> omega) | fail)) only [admQ, lq3, aFill, AK.cls, implies_true, if_true, if_false, seval, -List.reduceReplicate]
  refine (ans_print hR2 (by rw [List.length_drop]; omega)).mono ?_
  rintro _ m3 ⟨rfl, k3, -⟩
  have e1 : ((b.drop 1).take 16).take 8 = (b.drop 1).take 8 := by rw [List.take_take]; rfl
  have e2 : (((b.drop 1).take 16).drop 8).take 8 = (b.drop 9).take 8 := by rw [List.drop_take, List.take_take, List.drop_drop]; rfl
  have hE : intB (((b.drop 1).take 16).take 8) = nE b := by rw [e1]; rfl
  have hNn : intB ((((b.drop 1).take 16).drop 8).take 8) = nN b := by rw [e2]; rfl
  have K3 : Kept [] M m3 := (k1.upon k2 (by simpa using hp)).upon k3 (by simpa using hp)
  have o3 := K3.own o0 (by simp)
  rw [hE, hNn]
  simp -implicitDefEqProofs (disch := (first | omega | (simp only [lq3] <;> omega) | fail)) only [admQ, lq3, aFill, AK.cls, implies_true, if_true, if_false, seval, -List.reduceReplicate]
  have k4 := Kept.app [] m3 [Blk.row [.int .i64 k, .int .i64 (nE b), .int .i64 (nN b), .int .i64 a, .nils] false]
  have b4 : own (m3 ++ [Blk.row [.int .i64 k, .int .i64 (nE b), .int .i64 (nN b), .int .i64 a, .nils] false]) m3.length = some [.int .i64 k, .int .i64 (nE b), .int .i64 (nN b), .int .i64 a, .nils] := by rw [own_app_at0]; rfl
  generalize m3 ++ [Blk.row [.int .i64 k, .int .i64 (nE b), .int .i64 (nN b), .int .i64 a, .nils] false] = B at k4 b4
  have o4 := k4.own o3 (by simp)
  have KB := (k0.trans K3).trans k4
  have hMl := own_lt o0
  have hK3l := K3.len
  refine (ans_scright (nE b) (nN b) a B).mono ?_
  rintro _ M2 ⟨rfl, hM⟩
  subst hM
  by_cases h5 : rightP (nE b) (nN b) a
  ·simp -implicitDefEqProofs (disch := (first | omega | (simp only [lq3] <;> omega) | fail)) only [admQ, lq3, aFill, AK.cls, implies_true, if_true, if_false, seval, -List.reduceReplicate, dec_t h5, Bool.not_true, rowOf_own b4]
   obtain ⟨a, rfl⟩ : ∃ a' : Nat, a = a' := ⟨a.toNat, by have := h5.1; omega⟩
   have ha := h5.2.2
   refine (ans_schead k a (by omega) M2).mono ?_
   rintro y1 m5 ⟨k5, g5⟩
   have b5 := k5.own b4 (by simp)
   have K5 := KB.trans k5
   have hy5 := hy.kept0 K5
   have hdr := hy5.drop (k := 17) (by omega)
   simp -implicitDefEqProofs (disch := (first | omega | (simp only [lq3] <;> omega) | fail)) only [admQ, lq3, aFill, AK.cls, implies_true, if_true, if_false, seval, -List.reduceReplicate, rowOf_own b5, rowOf_own b4, cyn_open c, opW_invoke _ (cym_open c), opDW_invoke _ (cym_open c)]
   refine (ans_cyopenS (e := nE b) (n := nN b) (hC.kept0 K5) g5.rd hdr hk ⟨by rw [headB_len]; omega, by rw [List.length_drop]; omega⟩).mono ?_
   rintro _ m6 ⟨k6, w, rfl, rs6⟩
   have rw6 := rs6.rd
   have lw6 := rs6.low
   have b6 := k6.own b5 (by simp)
   have K6 := K5.trans k6
   have o6 := (k5.trans k6).own o4 (by simp)
   have h8 := K6.len
   have hne : m3.length ≠ m.length := by omega
   cases hop : cyOp c (nE b) (nN b) (headB k a) (b.drop 17) with
   | none =>
    have he : getE c k a b = 19 := by rw [getE, if_neg h1, if_neg h2, if_neg (by rintro (h | h); exact h3 h; exact h h4), if_neg (by simpa using h5), Int.toNat_natCast, hop]
    simp -implicitDefEqProofs (disch := (first | omega | (simp only [lq3] <;> omega) | fail)) only [admQ, lq3, aFill, AK.cls, implies_true, if_true, if_false, seval, -List.reduceReplicate, rowOf_own b6, rowOf_own b5, rowOf_own b4, Option.isSome_none, Bool.not_false, o6, own_set (own_lt o6), rowOf_own (own_set (own_lt o6) _)]
    exact hno _ _ (by omega) he (K6.write (.inr (Nat.le_refl _)) _)
   | some pl =>
    have he : getE c k a b = 0 := by rw [getE, if_neg h1, if_neg h2, if_neg (by rintro (h | h); exact h3 h; exact h h4), if_neg (by simpa using h5), Int.toNat_natCast, hop]
    have hs : getS c k a b = ⟨k, nE b, nN b, a, pl⟩ := by rw [getS, if_pos he, Int.toNat_natCast, hop]; rfl
    have w1 := own_set (own_lt b6) [AV.int .i64 k, .int .i64 (nE b), .int .i64 (nN b), .int .i64 a, w]
    have o7 := own_set_ne' o6 hne (.row [AV.int .i64 k, .int .i64 (nE b), .int .i64 (nN b), .int .i64 a, w] false)
    rw [hop] at rw6 rs6
    simp -implicitDefEqProofs (disch := (first | omega | (simp only [lq3] <;> omega) | fail)) only [admQ, lq3, aFill, AK.cls, implies_true, if_true, if_false, seval, -List.reduceReplicate, rowOf_own b6, rowOf_own b5, rowOf_own b4, Option.isSome_some, Bool.not_true, b6, (rd_one rw6).1, (rd_one rw6).2, rowOf_own w1, w1, o7, own_set (own_lt o7), rowOf_own (own_set (own_lt o7) _)]
    have KX := (Kept.set (X := [m.length, m3.length]) m6 m3.length (.row [AV.int .i64 k, .int .i64 (nE b), .int .i64 (nN b), .int .i64 a, w] false) (by simp)).trans (.set _ m.length (.row [AV.int .i64 k, .int .i64 (nE b), .int .i64 (nN b), .int .i64 a, w] false) (by simp))
    refine ⟨(K6.write (.inr (by omega)) _).write (.inr (Nat.le_refl _)) _, w, by rw [hs, he]; rfl, ?_⟩
    rw [hs]
    refine (rs6.weak K5.len).kept KX fun q hq hX => ?_
    have h9 := lw6 q hq
    have h10 := K5.len
    have h11 := own_lt b5
    have h12 := own_lt (k5.own o4 (by simp))
    simp only [List.mem_cons, List.not_mem_nil, or_false] at hX
    omega
  ·have he : getE c k a b = 7 := by rw [getE, if_neg h1, if_neg h2, if_neg (by rintro (h | h); exact h3 h; exact h h4), if_pos h5]
   simp -implicitDefEqProofs (disch := (first | omega | (simp only [lq3] <;> omega) | fail)) only [admQ, lq3, aFill, AK.cls, implies_true, if_true, if_false, seval, -List.reduceReplicate, dec_f h5, Bool.not_false, o4, own_set (own_lt o4), rowOf_own (own_set (own_lt o4) _)]
   exact hno _ _ (by omega) he (KB.write (.inr (Nat.le_refl _)) _)
 ·have he : getE c k a b = 5 := by rw [getE, if_neg h1, if_neg h2, if_pos (.inr h4)]
  simp -implicitDefEqProofs (disch := (first | omega | (simp only [lq3] <;> omega) | fail)) only [admQ, lq3, aFill, AK.cls, implies_true, if_true, if_false, seval, -List.reduceReplicate, beq_eq_false_iff_ne.mpr h4, Bool.not_false, o0, own_set (own_lt o0), rowOf_own (own_set (own_lt o0) _)]
  exact hno _ _ (by omega) he (k0.write (.inr (Nat.le_refl _)) _)
end Go.Proofs.YtehnkcnjmfbjpaaGreat
end
section
namespace Go.Proofs.YtehnkcnjmfbjpaaGreat
open Go Go.Adm
set_option linter.unusedSimpArgs false
set_option linter.unusedVariables false
set_option maxRecDepth 100000
theorem intB_num {v : Nat} (h : v < 9223372036854775808) : intB (numB v) = v := by
 rw [intB, beN_numB (by omega), wrap_i64 (by omega) (by omega)]
theorem kB_nat {k : Int} (h : 1 ≤ k ∧ k ≤ 5) : ((kB k).toNat : Int) = k := by
 have : k = 1 ∨ k = 2 ∨ k = 3 ∨ k = 4 ∨ k = 5 := by omega
 rcases this with rfl | rfl | rfl | rfl | rfl <;> decide
theorem okP_may {s : Sec} (h : okP s) : mayP (secD s) := ⟨⟨h.2.1.1.1, h.2.1.2.1.1⟩, h.2.1.1.2.1, h.2.1.2.1.2⟩
def cyHas : CyS → CyS → Sd → Prop
 | .nm S _, .nm S2 _, d => fidx d S2 = some (posN d S - 1)
theorem cyHas_nx (c : CyS) {d : Sd} (hd : mayP d) : cyHas c (cyNx c d) d := by
 cases c with
 | nm S T => simp only [cyNx, cyHas, sealS2, if_pos hd]; exact fidx_addself d S
theorem cyHas_more {c c2 : CyS} {d : Sd} (h : cyHas c c2 d) (d2 : Sd) : cyHas c (cyNx c2 d2) d := by
 cases c with
 | nm S T => cases c2 with
  | nm S2 T2 => simp only [cyNx, cyHas] at h ⊢; exact fidx_seal h
theorem cySl_has {c : CyS} {d : Sd} (hd : mayP d) : (cySl c d).length = d.2.2.2.length + 32 := by
 cases c with
 | nm S T => simp only [cySl, sealR, if_pos hd, nsealB_len]
theorem cyOp_seal {c c2 : CyS} {d : Sd} (hd : mayP d) (h : cyHas c c2 d) : cyOp c2 d.1 d.2.1 d.2.2.1 (cySl c d) = some d.2.2.2 := by
 cases c with
 | nm S T => cases c2 with
  | nm S2 T2 =>
   obtain ⟨e, n, hd', pl⟩ := d
   simp only [cyHas] at h
   obtain ⟨h1, h2⟩ := nopenP_seal S2 h
   have hs : cySl (.nm S T) (e, n, hd', pl) = nsealB S (e, n, hd', pl) := by simp only [cySl, sealR, if_pos hd]
   rw [hs, cyOp, if_pos h1, h2]
theorem putL_len {c : CyS} {s : Sec} (h : okP s) : (putL c s).length = 49 + s.p.length := by
 rw [putL, if_pos h, putB]
 simp only [List.length_append, List.length_cons, numB_len, cySl_has (okP_may h)]
 simp only [secD]; omega
theorem putL_parts {c : CyS} {s : Sec} (h : okP s) : kindB (putL c s) = s.k ∧ nE (putL c s) = s.e ∧ nN (putL c s) = s.n ∧ (putL c s).drop 17 = cySl c (secD s) := by
 have hl := putL_len (c := c) h
 rw [putL, if_pos h, putB] at hl ⊢
 have hr := h.2.1
 simp only [rightP] at hr
 have hk := kB_nat h.1
 have l1 : (kB s.k :: numB s.e.toNat).length = 9 := by simp [numB_len]
 have l2 : (kB s.k :: numB s.e.toNat ++ numB s.n.toNat).length = 17 := by simp [numB_len]
 refine ⟨?_, ?_, ?_, List.drop_left' l2⟩
 ·unfold kindB
  have e0 : gb (kB s.k :: numB s.e.toNat ++ numB s.n.toNat ++ cySl c (secD s)) 0 = kB s.k := rfl
  rw [e0, if_neg (by have := h.1; omega), hk]
 ·unfold nE
  rw [List.append_assoc, List.cons_append, List.drop_succ_cons, List.drop_zero, List.take_left' (numB_len _), intB_num (by omega)]
  omega
 ·unfold nN
  rw [List.append_assoc, List.drop_left' l1, List.take_left' (numB_len _), intB_num (by omega)]
  omega
theorem get_put {c c2 : CyS} {s : Sec} (h : okP s) (hc : cyHas c c2 (secD s)) : getE c2 s.k s.a (putL c s) = 0 ∧ getS c2 s.k s.a (putL c s) = s := by
 obtain ⟨h1, h2, h3, h4⟩ := putL_parts (c := c) h
 have hl := putL_len (c := c) h
 have ho : cyOp c2 s.e s.n (headB s.k s.a.toNat) (cySl c (secD s)) = some s.p := cyOp_seal (okP_may h) hc
 have he : getE c2 s.k s.a (putL c s) = 0 := by
  have := h.1
  have := h.2.2
  rw [getE, if_neg (by omega), if_neg (by omega), if_neg (by rw [h1]; omega), h2, h3, h4, ho, if_neg (by simpa using h.2.1)]
 refine ⟨he, ?_⟩
 rw [getS, if_pos he, h2, h3, h4, ho]
 rfl
end Go.Proofs.YtehnkcnjmfbjpaaGreat
end
section
namespace Go.Proofs.YtehnkcnjmfbjpaaGreat
open Go Go.Adm
set_option linter.unusedSimpArgs false
set_option linter.unusedVariables false
set_option maxRecDepth 100000
end Go.Proofs.YtehnkcnjmfbjpaaGreat
end
section
namespace Go.Proofs.YtehnkcnjmfbjpaaGreat
open Go Go.Adm
set_option linter.unusedSimpArgs false
set_option linter.unusedVariables false
set_option maxRecDepth 100000
end Go.Proofs.YtehnkcnjmfbjpaaGreat
end
section
namespace Go.Proofs.YtehnkcnjmfbjpaaGreat
open Go Go.Adm
set_option linter.unusedSimpArgs false
set_option linter.unusedVariables false
set_option maxRecDepth 100000
def putS (S : List Sd) (s : Sec) : List Sd := if okP s then sealS2 S (secD s) else S
theorem putC_nm (S : List Sd) (T : List (List B8)) (s : Sec) : putC (.nm S T) s = .nm (putS S s) T := by
 unfold putC putS; split <;> rfl
theorem putS_len (S : List Sd) (s : Sec) : (putS S s).length ≤ S.length + 1 := by
 unfold putS; split
 ·exact sealS2_len _ _
 ·omega
end Go.Proofs.YtehnkcnjmfbjpaaGreat
end
section
namespace Go.Proofs.YtehnkcnjmfbjpaaGreat
open Go Go.Adm
set_option linter.unusedSimpArgs false
set_option linter.unusedVariables false
set_option maxRecDepth 100000
theorem cyOk_put {c : CyS} {k : Nat} (s : Sec) (h : cyOk c k) : cyOk (putC c s) (k + 1) := by
 cases c with
 | nm S T => rw [putC_nm]; simp only [cyOk] at h ⊢; have := putS_len S s; omega
theorem cyOk_mono {c : CyS} {k k' : Nat} (h : cyOk c k) (hk : k ≤ k') : cyOk c k' := by
 cases c with
 | nm S T => exact Nat.le_trans h hk
theorem cyT_put (c : CyS) (s : Sec) : cyT (putC c s) = cyT c := by
 unfold putC; split
 ·exact cyT_nx _ _
 ·rfl
end Go.Proofs.YtehnkcnjmfbjpaaGreat
end
section
namespace Go.Proofs.YtehnkcnjmfbjpaaGreat
open Go Go.Adm
set_option linter.unusedSimpArgs false
set_option linter.unusedVariables false
set_option maxRecDepth 100000
end Go.Proofs.YtehnkcnjmfbjpaaGreat
end
section
namespace Go.Proofs.YtehnkcnjmfbjpaaGreat
open Go Go.Adm
set_option linter.unusedSimpArgs false
set_option linter.unusedVariables false
set_option maxRecDepth 100000
structure Geo where
 s : Int
 n : Int
 b : Int
deriving DecidableEq
def geoC (g : Geo) : List AV := [.int .i64 g.s, .int .i64 g.n, .int .i64 g.b]
def geoV (g : Geo) : AV := .agg (geoC g)
def needG (n b : Nat) : Nat := (b * 4 + n - 2) / (n - 1)
def leanG (n : Nat) : Nat := (n - 1) / 5
def inG (g : Geo) : Prop := (16 ≤ g.s ∧ g.s ≤ 32) ∧ (32 ≤ g.n ∧ g.n ≤ 64) ∧ 1 ≤ g.b ∧ g.b ≤ 64
instance (g : Geo) : Decidable (inG g) := by unfold inG; infer_instance
def okG (g : Geo) : Prop := inG g ∧ g.b + 9 < (g.s - needG g.n.toNat g.b.toNat - 14) * (leanG g.n.toNat + 1)
instance (g : Geo) : Decidable (okG g) := by unfold okG; infer_instance
theorem take3 {xs : List AV} {i : Nat} {a b c : AV} (h1 : xs[i]? = some a) (h2 : xs[i + 1]? = some b) (h3 : xs[i + 2]? = some c) : List.take 3 (List.drop i xs) = [a, b, c] := by
 have e1 := List.getElem?_eq_some_iff.mp h1
 have e2 := List.getElem?_eq_some_iff.mp h2
 have e3 := List.getElem?_eq_some_iff.mp h3
 rw [List.drop_eq_getElem_cons e1.1, List.drop_eq_getElem_cons e2.1, List.drop_eq_getElem_cons e3.1, e1.2, e2.2, e3.2]
 rfl
def spanP (t : Int × Int × Int) : Bool := decide (t.2.1 ≤ t.1) && decide (t.1 ≤ t.2.2)
theorem ans_gwithin {m : Mem} {p k : Nat} {xs : List AV} {L : List (Int × Int × Int)} (hp : rowOf m p = some xs) (hk : L.length = k) (hs : k ≤ 1000)
  (hel : ∀ (i : Nat) t, L[i]? = some t → xs[i * 3]? = some (.int .i64 t.1) ∧ xs[i * 3 + 1]? = some (.int .i64 t.2.1) ∧ xs[i * 3 + 2]? = some (.int .i64 t.2.2)) :
  Ans Tryz.prog 42 [.sl p 0 k k 0] m fun r m' => r = .bool (L.all spanP) ∧ Kept [] m m' := by
 refine ans_ret mixed ok42 ?_
 simp -implicitDefEqProofs (disch := (first | omega | (simp only [lq3] <;> omega) | fail)) only [admQ, lq3, aFill, AK.cls, implies_true, if_true, if_false, seval, -List.reduceReplicate, c42, r42]
 refine LoopW.on (fun i : Nat => [(5, .sl p 0 k k 0), (6, .int .i64 k), (7, .int .i64 i)]) (fun i => k - i) (fun i M => i ≤ k ∧ Kept [] m M ∧ (L.take i).all spanP = true) ?_ 0 _ _ rfl ⟨Nat.zero_le _, .refl _ _, by simp⟩
 rintro i M X ⟨hi, kk, hall⟩ hX
 by_cases hlt : i < k
 ·obtain ⟨t, ht⟩ : ∃ t, L[i]? = some t := ⟨_, List.getElem?_eq_getElem (by omega)⟩
  obtain ⟨a1, a2, a3⟩ := hel i t ht
  have t3 := take3 a1 a2 a3
  have hl3 := lt_of_get a3
  have hr := kk.row hp (by simp)
  have hsplit : L.take (i + 1) = L.take i ++ [t] := by rw [List.take_add_one, ht]; rfl
  have hL : spanP t = false → L.all spanP = false := fun h => by
   rw [List.all_eq_false]
   exact ⟨t, List.mem_of_getElem? ht, by simp [h]⟩
  by_cases h1 : t.1 < t.2.1
  ·have hf : spanP t = false := by simp [spanP]; omega
   simp -implicitDefEqProofs (disch := (first | omega | (simp only [lq3] <;> omega) | fail)) only [admQ, lq3, aFill, AK.cls, implies_true, if_true, if_false, seval, -List.reduceReplicate, dec_t (show (i : Int) < k by omega), hr, a1, a2, a3, t3, dec_t h1]
   exact ⟨by rw [hL hf], kk.more_app _⟩
  ·by_cases h2 : t.1 > t.2.2
   ·have hf : spanP t = false := by simp [spanP]; omega
    simp -implicitDefEqProofs (disch := (first | omega | (simp only [lq3] <;> omega) | fail)) only [admQ, lq3, aFill, AK.cls, implies_true, if_true, if_false, seval, -List.reduceReplicate, dec_t (show (i : Int) < k by omega), hr, a1, a2, a3, t3, dec_f h1, dec_t h2]
    exact ⟨by rw [hL hf], kk.more_app _⟩
   ·have hf : spanP t = true := by simp [spanP]; omega
    simp -implicitDefEqProofs (disch := (first | omega | (simp only [lq3] <;> omega) | fail)) only [admQ, lq3, aFill, AK.cls, implies_true, if_true, if_false, seval, -List.reduceReplicate, dec_t (show (i : Int) < k by omega), hr, a1, a2, a3, t3, dec_f h1, dec_f h2]
    exact hX (i + 1) _ _ rfl (by omega) ⟨by omega, kk.more_app _, by rw [hsplit, List.all_append, hall]; simp [hf]⟩
 ·obtain rfl : i = k := by omega
  simp -implicitDefEqProofs (disch := (first | omega | (simp only [lq3] <;> omega) | fail)) only [admQ, lq3, aFill, AK.cls, implies_true, if_true, if_false, seval, -List.reduceReplicate]
  rw [← hk, List.take_length] at hall
  exact ⟨by rw [hall], kk⟩
theorem ans_gneed (s n b : Nat) (hn : 2 ≤ n ∧ n ≤ 1000000) (hb : b ≤ 1000000) (x : AV) (m : Mem) : Ans Tryz.prog 95 [geoV ⟨s, n, b⟩, .int .i64 b] m fun r m' => r = .int .i64 (needG n b : Nat) ∧ Kept [] m m' := by
 refine ans_ret mixed ok95 ?_
 unfold geoV geoC
 have hq : (b * 4 + n - 2) / (n - 1) ≤ b * 4 + n - 2 := Nat.div_le_self _ _
 have hw0 : ∀ q : Nat, q ≤ 5000000 → IntKind.i64.wrap (q : Int) = q := fun q h => wrap_i64 (by omega) (by omega)
 have hw := hw0 ((b * 4 + n - 2) / (n - 1)) (by omega)
 simp -implicitDefEqProofs (disch := (first | omega | (simp only [lq3] <;> omega) | fail)) only [admQ, lq3, aFill, AK.cls, implies_true, if_true, if_false, seval, -List.reduceReplicate, c95, r95, hw]
 exact ⟨rfl, .app _ _ _⟩
theorem ans_glean (s n b : Nat) (hn : 1 ≤ n ∧ n ≤ 1000000) (m : Mem) : Ans Tryz.prog 96 [geoV ⟨s, n, b⟩] m fun r m' => r = .int .i64 (leanG n : Nat) ∧ Kept [] m m' := by
 refine ans_ret mixed ok96 ?_
 unfold geoV geoC
 simp -implicitDefEqProofs (disch := (first | omega | (simp only [lq3] <;> omega) | fail)) only [admQ, lq3, aFill, AK.cls, implies_true, if_true, if_false, seval, -List.reduceReplicate, c96, r96]
 exact ⟨rfl, .app _ _ _⟩
theorem ans_gmay (g : Geo) (m : Mem) : Ans Tryz.prog 60 [geoV g] m fun r m' => r = .bool (decide (okG g)) ∧ Kept [] m m' := by
 refine ans_ret mixed ok60 ?_
 unfold geoV geoC
 have k0 := Kept.app [] m [.row [.int .i64 g.s, .int .i64 g.n, .int .i64 g.b] false]
 have o0 : own (m ++ [.row [.int .i64 g.s, .int .i64 g.n, .int .i64 g.b] false]) m.length = some [.int .i64 g.s, .int .i64 g.n, .int .i64 g.b] := by rw [own_app_at0]; rfl
 simp -implicitDefEqProofs (disch := (first | omega | (simp only [lq3] <;> omega) | fail)) only [admQ, lq3, aFill, AK.cls, implies_true, if_true, if_false, seval, -List.reduceReplicate, c60, r60]
 generalize m ++ [.row [.int .i64 g.s, .int .i64 g.n, .int .i64 g.b] false] = A at *
 refine someW_eq (show _ = some [AV.int .i64 g.s, .int .i64 16, .int .i64 32, .int .i64 g.n, .int .i64 32, .int .i64 64, .int .i64 g.b, .int .i64 1, .int .i64 64] from rfl) ?_
 simp -implicitDefEqProofs (disch := (first | omega | (simp only [lq3] <;> omega) | fail)) only [admQ, lq3, aFill, AK.cls, implies_true, if_true, if_false, seval, -List.reduceReplicate, rowOf_own o0]
 generalize hB : A ++ _ = B
 have k1 : Kept [] A B := by rw [← hB]; exact .app _ _ _
 have o1 : own B A.length = some [AV.int .i64 g.s, .int .i64 16, .int .i64 32, .int .i64 g.n, .int .i64 32, .int .i64 64, .int .i64 g.b, .int .i64 1, .int .i64 64] := by rw [← hB, own_app_at0]; rfl
 clear hB
 have p0 := k1.own o0 (by simp)
 refine (ans_gwithin (L := [(g.s, 16, 32), (g.n, 32, 64), (g.b, 1, 64)]) (rowOf_own o1) rfl (show 3 ≤ 1000 by omega) (fun i t ht => ?_)).mono ?_
 ·have hi := lt_of_get ht
  simp only [List.length_cons, List.length_nil] at hi
  match i, hi with
  | 0, _ => cases ht; exact ⟨rfl, rfl, rfl⟩
  | 1, _ => cases ht; exact ⟨rfl, rfl, rfl⟩
  | 2, _ => cases ht; exact ⟨rfl, rfl, rfl⟩
 rintro _ m2 ⟨rfl, k2⟩
 have p2 := k2.own p0 (by simp)
 have K2 := (k0.trans k1).trans k2
 have o2 := k2.own o1 (by simp)
 have hall : [(g.s, (16 : Int), (32 : Int)), (g.n, 32, 64), (g.b, 1, 64)].all spanP = decide (inG g) := by
  rw [Bool.eq_iff_iff]
  simp only [List.all_cons, List.all_nil, spanP, Bool.and_true, Bool.and_eq_true, inG]
  simp [and_assoc]
 rw [hall]
 by_cases hi : inG g
 ·obtain ⟨s, n, b⟩ := g
  have hi' := hi
  simp only [inG] at hi'
  simp only at *
  obtain ⟨s, rfl⟩ : ∃ e' : Nat, s = e' := ⟨s.toNat, by omega⟩
  obtain ⟨n, rfl⟩ : ∃ n' : Nat, n = n' := ⟨n.toNat, by omega⟩
  obtain ⟨b, rfl⟩ : ∃ a' : Nat, b = a' := ⟨b.toNat, by omega⟩
  have hneed : needG n b ≤ 10 := by
   unfold needG
   exact Nat.div_le_of_le_mul (by omega)
  have hlean : leanG n ≤ 12 := by unfold leanG; omega
  simp -implicitDefEqProofs (disch := (first | omega | (simp only [lq3] <;> omega) | fail)) only [admQ, lq3, aFill, AK.cls, implies_true, if_true, if_false, seval, -List.reduceReplicate, dec_t hi, rowOf_own p2, rowOf_own p0, own_some o2]
  refine (ans_gneed s n b (by omega) (by omega) .nils m2).mono ?_
  rintro _ m3 ⟨rfl, k3⟩
  have p3 := k3.own p2 (by simp)
  have o3 := k3.own o2 (by simp)
  have w1 : IntKind.i64.wrap ((s : Int) - (needG n b : Nat)) = (s : Int) - (needG n b : Nat) := wrap_i64 (by omega) (by omega)
  have w2 : IntKind.i64.wrap ((s : Int) - (needG n b : Nat) - 14) = (s : Int) - (needG n b : Nat) - 14 := wrap_i64 (by omega) (by omega)
  simp -implicitDefEqProofs (disch := (first | omega | (simp only [lq3] <;> omega) | fail)) only [admQ, lq3, aFill, AK.cls, implies_true, if_true, if_false, seval, -List.reduceReplicate, rowOf_own p3, rowOf_own p2, rowOf_own p0, own_some o3, w1, w2]
  refine (ans_glean s n b (by omega) m3).mono ?_
  rintro _ m4 ⟨rfl, k4⟩
  have p4 := k4.own p3 (by simp)
  have o4 := k4.own o3 (by simp)
  simp -implicitDefEqProofs (disch := (first | omega | (simp only [lq3] <;> omega) | fail)) only [admQ, lq3, aFill, AK.cls, implies_true, if_true, if_false, seval, -List.reduceReplicate, rowOf_own p4, rowOf_own p3, rowOf_own p2, rowOf_own p0, own_some o4]
  have hx : ((s - needG n b : Nat) : Int) - 14 = (s : Int) - (needG n b : Nat) - 14 := by omega
  have hy : ∀ z : Int, -100 ≤ z → z ≤ 100 → -10000 ≤ z * ((leanG n + 1 : Nat) : Int) ∧ z * ((leanG n + 1 : Nat) : Int) ≤ 10000 := fun z h1 h2 => by
   have : leanG n = 0 ∨ leanG n = 1 ∨ leanG n = 2 ∨ leanG n = 3 ∨ leanG n = 4 ∨ leanG n = 5 ∨ leanG n = 6 ∨ leanG n = 7 ∨ leanG n = 8 ∨ leanG n = 9 ∨ leanG n = 10 ∨ leanG n = 11 ∨ leanG n = 12 := by omega
   rcases this with h | h | h | h | h | h | h | h | h | h | h | h | h <;> rw [h] <;> omega
  rw [hx]
  obtain ⟨y1, y2⟩ := hy ((s : Int) - (needG n b : Nat) - 14) (by omega) (by omega)
  rw [wrap_i64 (by omega) (by omega)]
  refine ⟨?_, (K2.trans k3).trans k4⟩
  congr 2
  simp only [okG, hi, true_and, Int.toNat_natCast, Int.natCast_add, Int.natCast_one]
  rfl
 ·simp -implicitDefEqProofs (disch := (first | omega | (simp only [lq3] <;> omega) | fail)) only [admQ, lq3, aFill, AK.cls, implies_true, if_true, if_false, seval, -List.reduceReplicate, dec_f hi, rowOf_own p2, rowOf_own p0, own_some o2, dec_f (show ¬ okG g from fun h => hi h.1)]
  exact K2
end Go.Proofs.YtehnkcnjmfbjpaaGreat
end
section
namespace Go.Proofs.YtehnkcnjmfbjpaaGreat
open Go Go.Adm
set_option linter.unusedSimpArgs false
set_option linter.unusedVariables false
set_option maxRecDepth 100000
def Rdr2 (m : Mem) (r : Nat) (l : List B8) (bad : Bool) : Prop := ∃ p o cap sl B, own m r = some [.sl p o l.length cap sl, .bool bad] ∧ own m p = some B ∧ RdB m (.sl p o l.length cap sl) l ∧ p ≠ r
theorem Rdr.two {m : Mem} {r : Nat} {l : List B8} (h : Rdr m r l) : Rdr2 m r l false := h
def rdN (t : List B8 × Bool) : Int := if t.2 = false ∧ 8 ≤ t.1.length then intB (t.1.take 8) else 0
def rdT (t : List B8 × Bool) : List B8 × Bool := if t.2 = false ∧ 8 ≤ t.1.length then (t.1.drop 8, false) else (t.1, true)
theorem ans_print2 {m : Mem} {r : Nat} {l : List B8} {bad : Bool} (h : Rdr2 m r l bad) (hb : l.length ≤ 1000000000) :
  Ans Tryz.prog 81 [.ptr r 0] m fun v m' => v = .int .i64 (rdN (l, bad)) ∧ Kept [r] m m' ∧ Rdr2 m' r (rdT (l, bad)).1 (rdT (l, bad)).2 := by
 by_cases hok : bad = false ∧ 8 ≤ l.length
 ·obtain ⟨rfl, hl⟩ := hok
  rw [rdN, rdT, if_pos ⟨rfl, hl⟩, if_pos ⟨rfl, hl⟩]
  exact ans_print h hl
 ·rw [rdN, rdT, if_neg hok, if_neg hok]
  obtain ⟨p, o, cap, sl, B, h1, h2, h3, h4⟩ := h
  have hr := own_lt h1
  have h1' := own_set hr [AV.sl p o l.length cap sl, .bool true]
  have kX := Kept.set1 m r (.row [AV.sl p o l.length cap sl, .bool true] false)
  have h38 := h3.kept kX (fun b o n cap s e => by cases e; simpa using h4)
  refine ans_ret mixed ok81 ?_
  simp -implicitDefEqProofs (disch := (first | omega | (simp only [lq3] <;> omega) | fail)) only [admQ, lq3, aFill, AK.cls, implies_true, if_true, if_false, seval, -List.reduceReplicate, c81, r81]
  have htk : Ans Tryz.prog 107 [.ptr r 0, .int .i64 8, .fn (.func 108) [] []] m fun v m' => v = .int .i64 0 ∧ Kept [r] m m' ∧ Rdr2 m' r l true := by
   refine ans_ret mixed ok107 ?_
   cases bad with
   | true =>
    simp -implicitDefEqProofs (disch := (first | omega | (simp only [lq3] <;> omega) | fail)) only [admQ, lq3, aFill, AK.cls, implies_true, if_true, if_false, seval, -List.reduceReplicate, c107, r107, rowOf_own h1, h1]
    exact ⟨kX, p, o, cap, sl, B, h1', kX.own h2 (by simpa using h4), h38, h4⟩
   | false =>
    have hlt : ¬ 8 ≤ l.length := fun h => hok ⟨rfl, h⟩
    simp -implicitDefEqProofs (disch := (first | omega | (simp only [lq3] <;> omega) | fail)) only [admQ, lq3, aFill, AK.cls, implies_true, if_true, if_false, seval, -List.reduceReplicate, c107, r107, rowOf_own h1, h1, dec_t (show (l.length : Int) < 8 by omega)]
    exact ⟨kX, p, o, cap, sl, B, h1', kX.own h2 (by simpa using h4), h38, h4⟩
  refine htk.mono ?_
  rintro v m' ⟨rfl, h5, h6⟩
  simp -implicitDefEqProofs (disch := (first | omega | (simp only [lq3] <;> omega) | fail)) only [admQ, lq3, aFill, AK.cls, implies_true, if_true, if_false, seval, -List.reduceReplicate]
  exact ⟨h5, h6⟩
theorem ans_pend {m : Mem} {r : Nat} {l : List B8} {bad : Bool} (h : Rdr2 m r l bad) : Ans Tryz.prog 86 [.ptr r 0] m fun v m' => v = .int .i64 (if bad = true then 4 else if 0 < l.length then 3 else 0) ∧ m' = m := by
 obtain ⟨p, o, cap, sl, B, h1, h2, h3, h4⟩ := h
 refine ans_ret mixed ok86 ?_
 cases bad with
 | true => simp -implicitDefEqProofs (disch := (first | omega | (simp only [lq3] <;> omega) | fail)) only [admQ, lq3, aFill, AK.cls, implies_true, if_true, if_false, seval, -List.reduceReplicate, c86, r86, rowOf_own h1]
 | false =>
  by_cases hl : 0 < l.length
  ·simp -implicitDefEqProofs (disch := (first | omega | (simp only [lq3] <;> omega) | fail)) only [admQ, lq3, aFill, AK.cls, implies_true, if_true, if_false, seval, -List.reduceReplicate, c86, r86, rowOf_own h1, dec_t (show (l.length : Int) > 0 by omega), hl]
  ·simp -implicitDefEqProofs (disch := (first | omega | (simp only [lq3] <;> omega) | fail)) only [admQ, lq3, aFill, AK.cls, implies_true, if_true, if_false, seval, -List.reduceReplicate, c86, r86, rowOf_own h1, dec_f (show ¬ (l.length : Int) > 0 by omega), hl]
theorem rdT_len (t : List B8 × Bool) : (rdT t).1.length ≤ t.1.length := by unfold rdT; split <;> simp
theorem rdT_short {l : List B8} (h : l.length < 8) : rdT (l, false) = (l, true) := by rw [rdT, if_neg (by simp; omega)]
theorem rdT_ok {l : List B8} (h : 8 ≤ l.length) : rdT (l, false) = (l.drop 8, false) ∧ rdN (l, false) = intB (l.take 8) := by rw [rdT, rdN, if_pos ⟨rfl, h⟩, if_pos ⟨rfl, h⟩]; exact ⟨rfl, rfl⟩
end Go.Proofs.YtehnkcnjmfbjpaaGreat
end
section
namespace Go.Proofs.YtehnkcnjmfbjpaaGreat
open Go Go.Adm
set_option linter.unusedSimpArgs false
set_option linter.unusedVariables false
set_option maxRecDepth 100000
abbrev Cch := List (Int × List B8)
def cIdx (c : Cch) (i : Int) : Option Nat := fidx i (c.map (·.1))
def cGet (c : Cch) (i : Int) : Option (List B8) := (cIdx c i).bind fun j => (c[j]?).map (·.2)
def cPut (c : Cch) (i : Int) (b : List B8) : Cch := match cIdx c i with
 | some j => c.set j (i, b)
 | none => c ++ [(i, b)]
def cDel (c : Cch) (i : Int) : Cch := match cIdx c i with
 | some j => c.eraseIdx j
 | none => c
theorem cIdx_some {c : Cch} {i : Int} {j : Nat} (h : cIdx c i = some j) : ∃ b, c[j]? = some (i, b) := by
 have := fidx_some h
 rw [List.getElem?_map] at this
 obtain ⟨e, h1, h2⟩ := Option.map_eq_some_iff.mp this
 obtain ⟨k, b⟩ := e
 simp only at h2
 subst h2
 exact ⟨b, h1⟩
theorem cPut_keys {c : Cch} {i : Int} {b : List B8} (h : (c.map (·.1)).Nodup) : ((cPut c i b).map (·.1)).Nodup := by
 unfold cPut
 cases hj : cIdx c i with
 | some j =>
  obtain ⟨b', hb⟩ := cIdx_some hj
  have hl := lt_of_get hb
  have : (c.set j (i, b)).map (·.1) = c.map (·.1) := by
   rw [List.map_set]
   apply List.ext_getElem?
   intro k
   by_cases hk : j = k
   ·subst hk
    rw [List.getElem?_set_self (by simpa using hl), List.getElem?_map, hb]; rfl
   ·rw [List.getElem?_set_ne hk]
  rw [this]; exact h
 | none =>
  have := fidx_none.mp hj
  rw [List.map_append, List.nodup_append]
  refine ⟨h, by simp, ?_⟩
  intro a ha b' hb'
  simp only [List.map_cons, List.map_nil, List.mem_singleton] at hb'
  subst hb'
  rintro rfl
  exact this ha
theorem cGet_put {c : Cch} {i : Int} {b : List B8} (h : (c.map (·.1)).Nodup) : cGet (cPut c i b) i = some b := by
 unfold cGet
 have key : ∀ j : Nat, (cPut c i b)[j]? = some (i, b) → (cIdx (cPut c i b) i).bind (fun j => ((cPut c i b)[j]?).map (·.2)) = some b := fun j hj => by
  have : cIdx (cPut c i b) i = some j := fidx_nodup (cPut_keys h) (by rw [List.getElem?_map, hj]; rfl)
  rw [this, Option.bind_some, hj]; rfl
 cases hj : cIdx c i with
 | some j =>
  obtain ⟨b', hb⟩ := cIdx_some hj
  refine key j ?_
  unfold cPut
  rw [hj]
  exact List.getElem?_set_self (lt_of_get hb)
 | none =>
  refine key c.length ?_
  unfold cPut
  rw [hj]
  simp
theorem cDel_keys {c : Cch} {i : Int} (h : (c.map (·.1)).Nodup) : ((cDel c i).map (·.1)).Nodup := by
 unfold cDel
 split
 ·exact List.Nodup.sublist ((List.eraseIdx_sublist c _).map _) h
 ·exact h
theorem cGet_del {c : Cch} {i : Int} (h : (c.map (·.1)).Nodup) : cGet (cDel c i) i = none := by
 have hn : i ∉ (cDel c i).map (·.1) := by
  intro hm
  obtain ⟨e, he, rfl⟩ := List.mem_map.mp hm
  unfold cDel at he
  cases hj : cIdx c e.1 with
  | none =>
   rw [hj] at he
   exact fidx_none.mp hj (List.mem_map_of_mem he)
  | some j =>
   rw [hj] at he
   obtain ⟨b', hb⟩ := cIdx_some hj
   obtain ⟨k, hk⟩ := List.getElem?_of_mem he
   rw [List.getElem?_eraseIdx] at hk
   have uniq : ∀ k', c[k']? = some e → k' = j := fun k' hk' => by
    have e1 : fidx e.1 (c.map (·.1)) = some k' := fidx_nodup h (by rw [List.getElem?_map, hk']; rfl)
    exact Option.some.inj (e1.symm.trans hj)
   split at hk
   ·have := uniq _ hk; omega
   ·have := uniq _ hk; omega
 unfold cGet
 rw [show cIdx (cDel c i) i = none from fidx_none.mpr hn]; rfl
structure Dk where
 lasts : List (List B8)
 cache : Cch
 armed : Bool
 left : Int
 off : Bool
 writes : Int
 reads : List Int
def okI (d : Dk) (i : Int) : Prop := 0 ≤ i ∧ i < d.lasts.length
instance (d : Dk) (i : Int) : Decidable (okI d i) := by unfold okI; infer_instance
def wrongD (d : Dk) (i : Int) (b : List B8) : Int := if ¬ okI d i then 7 else if b.length > 1024 then 3 else 0
def spendE (d : Dk) : Int := if d.off = true then 12 else if d.armed = true ∧ d.left = 0 then 12 else 0
def spendD (d : Dk) : Dk := if d.off = true then d else if d.armed = true ∧ d.left = 0 then { d with off := true } else { d with left := IntKind.i64.wrap (d.left - 1) }
def writeE (d : Dk) (i : Int) (b : List B8) : Int := if d.off = true then 12 else if wrongD d i b ≠ 0 then wrongD d i b else spendE d
def writeD (d : Dk) (i : Int) (b : List B8) : Dk := if d.off = true then d else if wrongD d i b ≠ 0 then d else if spendE d ≠ 0 then spendD d else { spendD d with cache := cPut d.cache i b, writes := IntKind.i64.wrap (d.writes + 1) }
def peekD (d : Dk) (i : Int) : List B8 := (cGet d.cache i).getD ((d.lasts[i.toNat]?).getD [])
def readD (d : Dk) (i : Int) : Dk := { d with reads := d.reads.set i.toNat (IntKind.i64.wrap ((d.reads[i.toNat]?).getD 0 + 1)) }
def tamperD (d : Dk) (i : Int) (b : List B8) : Dk := if wrongD d i b ≠ 0 then d else { d with lasts := d.lasts.set i.toNat b, cache := cDel d.cache i }
def RdV (m : Mem) (W R : List Nat) (v : AV) (l : List B8) : Prop := RdB m v l ∧ ∀ q ∈ blkOf v, q ∈ R ∧ q ∉ W
theorem RdV.kept {m m' : Mem} {W R R' X : List Nat} {v : AV} {l : List B8} (h : RdV m W R v l) (hk : Kept X m m') (hX : ∀ q ∈ blkOf v, q ∉ X) (hR : ∀ q ∈ R, q ∈ R') : RdV m' W R' v l :=
 ⟨rdb_ap h.1 hk hX, fun q hq => ⟨hR q (h.2 q hq).1, (h.2 q hq).2⟩⟩
structure Dsk (m : Mem) (x : Nat) (W R : List Nat) (d : Dk) : Prop where
 ex : ∃ pl pm pr lv es ck, W = [x, pl, pm, pr] ∧ W.Nodup ∧ own m x = some [.sl pl 0 d.lasts.length d.lasts.length 0, .map pm, .bool d.armed, .int .i64 d.left, .bool d.off, .int .i64 d.writes, .sl pr 0 d.lasts.length d.lasts.length 0] ∧
  (own m pl = some lv ∧ lv.length = d.lasts.length ∧ ∀ (i : Nat) l, d.lasts[i]? = some l → ∃ v, lv[i]? = some v ∧ RdV m W R v l) ∧
  (m[pm]? = some (.map es ck) ∧ es.length = d.cache.length ∧ ∀ (j : Nat) k l, d.cache[j]? = some (k, l) → ∃ v c, es[j]? = some (.int .i64 k, v, c) ∧ RdV m W R v l) ∧
  own m pr = some (d.reads.map (.int .i64)) ∧ d.reads.length = d.lasts.length
 sub : ∀ q ∈ W, q ∈ R
 lt : ∀ q ∈ R, q < m.length
 keys : (d.cache.map (·.1)).Nodup
 sz : 1 ≤ d.lasts.length ∧ d.lasts.length ≤ 4096
theorem Dsk.kept {m m' : Mem} {x : Nat} {W R X : List Nat} {d : Dk} (h : Dsk m x W R d) (hk : Kept X m m') (hX : ∀ q ∈ R, q ∉ X) : Dsk m' x W R d := by
 obtain ⟨pl, pm, pr, lv, es, ck, rfl, hn, h1, ⟨h2, h3, h4⟩, ⟨h5, h6, h7⟩, h8, h9⟩ := h.ex
 have hs := h.sub
 have hV : ∀ {v : AV} {l : List B8}, RdV m [x, pl, pm, pr] R v l → RdV m' [x, pl, pm, pr] R v l := fun hv => hv.kept hk (fun q hq => hX q (hv.2 q hq).1) (fun _ h => h)
 refine ⟨⟨pl, pm, pr, lv, es, ck, rfl, hn, hk.own h1 (hX x (hs x (by simp))), ⟨hk.own h2 (hX pl (hs pl (by simp))), h3, fun i l hl => ?_⟩, ⟨?_, h6, fun j k l hl => ?_⟩, hk.own h8 (hX pr (hs pr (by simp))), h9⟩, hs, fun q hq => Nat.lt_of_lt_of_le (h.lt q hq) hk.len, h.keys, h.sz⟩
 ·obtain ⟨v, g1, g2⟩ := h4 i l hl; exact ⟨v, g1, hV g2⟩
 ·rw [hk.eq pm (lt_of_get h5) (hX pm (hs pm (by simp)))]; exact h5
 ·obtain ⟨v, c, g1, g2⟩ := h7 j k l hl; exact ⟨v, c, g1, hV g2⟩
theorem Dsk.kept0 {m m' : Mem} {x : Nat} {W R : List Nat} {d : Dk} (h : Dsk m x W R d) (hk : Kept [] m m') : Dsk m' x W R d := h.kept hk (by simp)
theorem aFind_int (i : Int) : ∀ (c : Cch) (es : List (AV × AV × Nat)) (i0 : Nat), es.length = c.length → (∀ (j : Nat) k b, c[j]? = some (k, b) → ∃ v n, es[j]? = some (.int .i64 k, v, n)) →
  aFind (.one .i) (.int .i64 i) es i0 = some ((cIdx c i).map fun j => (i0 + j, ((es[j]?).map (·.2.1)).getD .nils)) := by
 intro c
 induction c with
 | nil =>
  intro es i0 hl _
  have : es = [] := List.length_eq_zero_iff.mp hl
  subst this; rfl
 | cons e c ih =>
  intro es i0 hl h
  cases es with
  | nil => cases hl
  | cons f es =>
   obtain ⟨k, b⟩ := e
   obtain ⟨v, n, h0⟩ := h 0 k b rfl
   simp only [List.getElem?_cons_zero, Option.some.injEq] at h0
   subst h0
   have ih' := ih es (i0 + 1) (by simpa using hl) (fun j k b hj => h (j + 1) k b (by simpa using hj))
   unfold aFind
   have hm : mapEq (.one .i) (.int .i64 i) (.int .i64 k) = some (i == k) := rfl
   simp only [hm, Option.bind_some]
   unfold cIdx at ih' ⊢
   simp only [List.map_cons]
   unfold fidx
   by_cases hk : i = k
   ·subst hk
    simp
   ·rw [beq_eq_false_iff_ne.mpr hk, if_neg hk, ih']
    cases fidx i (c.map (·.1)) with
    | none => rfl
    | some j => simp [Nat.add_assoc, Nat.add_comm 1 j]
def CchR (P : AV → List B8 → Prop) (es : List (AV × AV × Nat)) (c : Cch) : Prop := es.length = c.length ∧ ∀ (j : Nat) k l, c[j]? = some (k, l) → ∃ v n, es[j]? = some (.int .i64 k, v, n) ∧ P v l
def esPut (c : Cch) (i : Int) (v : AV) (ck : Nat) (es : List (AV × AV × Nat)) : List (AV × AV × Nat) := match cIdx c i with
 | some j => es.set j (.int .i64 i, v, ((es[j]?).map fun e => e.2.2).getD 0)
 | none => es ++ [(.int .i64 i, v, ck)]
def ckPut (c : Cch) (i : Int) (ck : Nat) : Nat := match cIdx c i with
 | some _ => ck
 | none => ck + 1
def esDel (c : Cch) (i : Int) (es : List (AV × AV × Nat)) : List (AV × AV × Nat) := match cIdx c i with
 | some j => es.eraseIdx j
 | none => es
theorem CchR.mono {P Q : AV → List B8 → Prop} {es : List (AV × AV × Nat)} {c : Cch} (h : CchR P es c) (hq : ∀ v l, P v l → Q v l) : CchR Q es c :=
 ⟨h.1, fun j k l hj => let ⟨v, n, h1, h2⟩ := h.2 j k l hj; ⟨v, n, h1, hq _ _ h2⟩⟩
theorem CchR.put {P : AV → List B8 → Prop} {es : List (AV × AV × Nat)} {c : Cch} (h : CchR P es c) {v : AV} {b : List B8} (hv : P v b) (i : Int) (ck : Nat) : CchR P (esPut c i v ck es) (cPut c i b) := by
 unfold esPut cPut
 cases hj : cIdx c i with
 | some j0 =>
  obtain ⟨b', hb⟩ := cIdx_some hj
  have hl := lt_of_get hb
  refine ⟨by simp [h.1], fun j k l hjl => ?_⟩
  by_cases hjj : j0 = j
  ·subst hjj
   simp only [List.getElem?_set_self hl, Option.some.injEq, Prod.mk.injEq] at hjl
   obtain ⟨rfl, rfl⟩ := hjl
   exact ⟨v, _, List.getElem?_set_self (by rw [h.1]; exact hl), hv⟩
  ·simp only [List.getElem?_set_ne hjj] at hjl ⊢
   exact h.2 j k l hjl
 | none =>
  refine ⟨by simp [h.1], fun j k l hjl => ?_⟩
  by_cases hlt : j < c.length
  ·simp only [List.getElem?_append_left hlt] at hjl
   obtain ⟨v', n, h1, h2⟩ := h.2 j k l hjl
   exact ⟨v', n, by simp only [List.getElem?_append_left (show j < es.length by rw [h.1]; exact hlt)]; exact h1, h2⟩
  ·have hle := lt_of_get hjl
   simp only [List.length_append, List.length_cons, List.length_nil] at hle
   obtain rfl : j = c.length := by omega
   simp only [List.getElem?_concat_length, Option.some.injEq, Prod.mk.injEq] at hjl
   obtain ⟨rfl, rfl⟩ := hjl
   exact ⟨v, ck, by rw [← h.1, List.getElem?_concat_length], hv⟩
theorem CchR.del {P : AV → List B8 → Prop} {es : List (AV × AV × Nat)} {c : Cch} (h : CchR P es c) (i : Int) : CchR P (esDel c i es) (cDel c i) := by
 unfold esDel cDel
 cases hj : cIdx c i with
 | none => exact h
 | some j0 =>
  refine ⟨by simp only [List.length_eraseIdx, h.1], fun j k l hjl => ?_⟩
  simp only [List.getElem?_eraseIdx] at hjl ⊢
  by_cases hlt : j < j0
  ·rw [if_pos hlt] at hjl ⊢; exact h.2 j k l hjl
  ·rw [if_neg hlt] at hjl ⊢; exact h.2 (j + 1) k l hjl
theorem CchR.find {P : AV → List B8 → Prop} {es : List (AV × AV × Nat)} {c : Cch} (h : CchR P es c) (i : Int) : aFind (.one .i) (.int .i64 i) es 0 = some ((cIdx c i).map fun j => (j, ((es[j]?).map (·.2.1)).getD .nils)) := by
 rw [aFind_int i c es 0 h.1 (fun j k b hj => let ⟨v, n, h1, _⟩ := h.2 j k b hj; ⟨v, n, h1⟩)]
 simp
theorem cch_set {P : AV → List B8 → Prop} {m : Mem} {p ck : Nat} {es : List (AV × AV × Nat)} {c : Cch} (hp : m[p]? = some (.map es ck)) (h : CchR P es c) (i : Int) (v : AV) :
  aMapSet (.one .i) m [.map p, .int .i64 i, v] = some (.tup [], m.set p (.map (esPut c i v ck es) (ckPut c i ck))) := by
 have hmo : mapOf m p = some (es, ck) := by unfold mapOf; rw [hp]
 have hkf : keyFits (.one .i) (.int .i64 i) = true := rfl
 show (if keyFits (.one .i) (.int .i64 i) = true then (mapOf m p).bind fun q => (aPutMap (.one .i) (.int .i64 i) v q.1 q.2).map fun q => (AV.tup [], m.set p (.map q.1 q.2)) else none) = _
 rw [if_pos hkf, hmo]
 unfold aPutMap esPut ckPut
 simp only [Option.bind_some, h.find]
 cases cIdx c i <;> simp
theorem cch_del {P : AV → List B8 → Prop} {m : Mem} {p ck : Nat} {es : List (AV × AV × Nat)} {c : Cch} (hp : m[p]? = some (.map es ck)) (h : CchR P es c) (i : Int) :
  aMapDel (.one .i) m [.map p, .int .i64 i] = some (.tup [], m.set p (.map (esDel c i es) ck)) := by
 have hmo : mapOf m p = some (es, ck) := by unfold mapOf; rw [hp]
 have hkf : keyFits (.one .i) (.int .i64 i) = true := rfl
 show (if keyFits (.one .i) (.int .i64 i) = true then (mapOf m p).bind fun q => (aFind (.one .i) (.int .i64 i) q.1 0).map fun r => (AV.tup [], m.set p (.map (delMap r q.1) q.2)) else none) = _
 rw [if_pos hkf, hmo]
 unfold esDel
 simp only [Option.bind_some, h.find]
 cases cIdx c i <;> simp [delMap]
theorem cch_look {P : AV → List B8 → Prop} {m : Mem} {p ck : Nat} {es : List (AV × AV × Nat)} {c : Cch} (hp : m[p]? = some (.map es ck)) (h : CchR P es c) (i : Int) :
  ∃ v, rLookup (.one .i) .nils true m [.map p, .int .i64 i] = some (.tup [v, .bool (cGet c i).isSome]) ∧ (match cGet c i with | some l => P v l | none => v = .nils) := by
 have hmo : mapOf m p = some (es, ck) := by unfold mapOf; rw [hp]
 have hkf : keyFits (.one .i) (.int .i64 i) = true := rfl
 have e : rLookup (.one .i) .nils true m [.map p, .int .i64 i] = (if keyFits (.one .i) (.int .i64 i) = true then (mapOf m p).bind fun q => (aFind (.one .i) (.int .i64 i) q.1 0).map (lookRes .nils true) else none) := rfl
 rw [e, if_pos hkf, hmo]
 simp only [Option.bind_some, h.find]
 unfold cGet
 cases hj : cIdx c i with
 | none => exact ⟨.nils, rfl, rfl⟩
 | some j =>
  obtain ⟨b', hb⟩ := cIdx_some hj
  obtain ⟨v, n, h1, h2⟩ := h.2 j i b' hb
  refine ⟨v, ?_, ?_⟩
  ·simp [h1, hb, lookRes]
  ·simp only [Option.bind_some, hb, Option.map_some]; exact h2
end Go.Proofs.YtehnkcnjmfbjpaaGreat
end
section
namespace Go.Proofs.YtehnkcnjmfbjpaaGreat
open Go Go.Adm
set_option linter.unusedSimpArgs false
set_option linter.unusedVariables false
set_option maxRecDepth 100000
theorem ans_dkthere {m : Mem} {x : Nat} {W R : List Nat} {d : Dk} (h : Dsk m x W R d) (i : Int) : Ans Tryz.prog 48 [.ptr x 0, .int .i64 i] m fun r m' => r = .bool (decide (okI d i)) ∧ m' = m := by
 refine ans_ret mixed ok48 ?_
 obtain ⟨pl, pm, pr, lv, es, ck, rfl, hn, h1, -⟩ := h.ex
 by_cases hi : i ≥ 0
 ·by_cases hj : i < (d.lasts.length : Int)
  ·simp -implicitDefEqProofs (disch := (first | omega | (simp only [lq3] <;> omega) | fail)) only [admQ, lq3, aFill, AK.cls, implies_true, if_true, if_false, seval, -List.reduceReplicate, c48, r48, rowOf_own h1, dec_t hi, dec_t hj, dec_t (show okI d i from ⟨hi, hj⟩)]
  ·simp -implicitDefEqProofs (disch := (first | omega | (simp only [lq3] <;> omega) | fail)) only [admQ, lq3, aFill, AK.cls, implies_true, if_true, if_false, seval, -List.reduceReplicate, c48, r48, rowOf_own h1, dec_t hi, dec_f hj, dec_f (show ¬ okI d i from fun h => hj h.2)]
 ·simp -implicitDefEqProofs (disch := (first | omega | (simp only [lq3] <;> omega) | fail)) only [admQ, lq3, aFill, AK.cls, implies_true, if_true, if_false, seval, -List.reduceReplicate, c48, r48, rowOf_own h1, dec_f hi, dec_f (show ¬ okI d i from fun h => hi h.1)]
theorem ans_dkwrong {m : Mem} {x : Nat} {W R : List Nat} {d : Dk} {y : AV} {b : List B8} (h : Dsk m x W R d) (hy : RdB m y b) (i : Int) : Ans Tryz.prog 50 [.ptr x 0, .int .i64 i, y] m fun r m' => r = .int .i64 (wrongD d i b) ∧ m' = m := by
 refine ans_ret mixed ok50 ?_
 simp -implicitDefEqProofs (disch := (first | omega | (simp only [lq3] <;> omega) | fail)) only [admQ, lq3, aFill, AK.cls, implies_true, if_true, if_false, seval, -List.reduceReplicate, c50, r50]
 refine (ans_dkthere h i).mono ?_
 rintro _ M ⟨rfl, hM⟩
 subst hM
 unfold wrongD
 by_cases h1 : okI d i
 ·by_cases h2 : b.length > 1024
  ·simp -implicitDefEqProofs (disch := (first | omega | (simp only [lq3] <;> omega) | fail)) only [admQ, lq3, aFill, AK.cls, implies_true, if_true, if_false, seval, -List.reduceReplicate, dec_t h1, Bool.not_true, hy.len, dec_t (show (b.length : Int) > 1024 by omega), h1, h2]
  ·simp -implicitDefEqProofs (disch := (first | omega | (simp only [lq3] <;> omega) | fail)) only [admQ, lq3, aFill, AK.cls, implies_true, if_true, if_false, seval, -List.reduceReplicate, dec_t h1, Bool.not_true, hy.len, dec_f (show ¬ (b.length : Int) > 1024 by omega), h1, h2]
 ·simp -implicitDefEqProofs (disch := (first | omega | (simp only [lq3] <;> omega) | fail)) only [admQ, lq3, aFill, AK.cls, implies_true, if_true, if_false, seval, -List.reduceReplicate, dec_f h1, Bool.not_false, h1]
theorem ans_dkspend {m : Mem} {x : Nat} {W R : List Nat} {d : Dk} (h : Dsk m x W R d) : Ans Tryz.prog 116 [.ptr x 0] m fun r m' => r = .int .i64 (spendE d) ∧ Kept W m m' ∧ Dsk m' x W R (spendD d) ∧ m'.length = m.length := by
 refine ans_ret mixed ok116 ?_
 obtain ⟨pl, pm, pr, lv, es, ck, rfl, hn, h1, ⟨h2, h3, h4⟩, ⟨h5, h6, h7⟩, h8, h9⟩ := h.ex
 have hx := own_lt h1
 simp only [List.nodup_cons, List.mem_cons, List.not_mem_nil, or_false, not_or] at hn
 have done : ∀ d' : Dk, d'.lasts = d.lasts → d'.cache = d.cache → d'.reads = d.reads → ∀ cells, cells = [AV.sl pl 0 d'.lasts.length d'.lasts.length 0, .map pm, .bool d'.armed, .int .i64 d'.left, .bool d'.off, .int .i64 d'.writes, .sl pr 0 d'.lasts.length d'.lasts.length 0] →
   Kept [x, pl, pm, pr] m (m.set x (.row cells false)) ∧ Dsk (m.set x (.row cells false)) x [x, pl, pm, pr] R d' ∧ (m.set x (.row cells false)).length = m.length := by
  intro d' e1 e2 e3 cells hc
  have kX : Kept [x] m (m.set x (.row cells false)) := .set1 _ _ _
  have hV : ∀ {v : AV} {l : List B8}, RdV m [x, pl, pm, pr] R v l → RdV (m.set x (.row cells false)) [x, pl, pm, pr] R v l := fun hv => hv.kept kX (fun q hq h => (hv.2 q hq).2 (by simp only [List.mem_singleton] at h; simp [h])) (fun _ h => h)
  refine ⟨kX.more (by simp), ⟨⟨pl, pm, pr, lv, es, ck, rfl, by simp [hn], by rw [hc]; exact own_set hx _, ⟨kX.own h2 (by simp; omega), by rw [e1]; exact h3, fun i l hl => ?_⟩, ⟨?_, by rw [e2]; exact h6, fun j k l hl => ?_⟩, by rw [e3]; exact kX.own h8 (by simp; omega), by rw [e1, e3]; exact h9⟩, h.sub, fun q hq => by rw [List.length_set]; exact h.lt q hq, by rw [e2]; exact h.keys, by rw [e1]; exact h.sz⟩, List.length_set⟩
  ·rw [e1] at hl; obtain ⟨v, g1, g2⟩ := h4 i l hl; exact ⟨v, g1, hV g2⟩
  ·rw [kX.eq pm (lt_of_get h5) (by simp; omega)]; exact h5
  ·rw [e2] at hl; obtain ⟨v, c, g1, g2⟩ := h7 j k l hl; exact ⟨v, c, g1, hV g2⟩
 by_cases ho : d.off = true
 ·rw [spendE, spendD, if_pos ho, if_pos ho]
  simp -implicitDefEqProofs (disch := (first | omega | (simp only [lq3] <;> omega) | fail)) only [admQ, lq3, aFill, AK.cls, implies_true, if_true, if_false, seval, -List.reduceReplicate, c116, r116, rowOf_own h1, ho]
  exact ⟨.refl _ _, h⟩
 ·have ho' : d.off = false := by simpa using ho
  by_cases ha : d.armed = true ∧ d.left = 0
  ·rw [spendE, spendD, if_neg ho, if_pos ha, if_neg ho, if_pos ha]
   obtain ⟨ha1, ha2⟩ := ha
   simp -implicitDefEqProofs (disch := (first | omega | (simp only [lq3] <;> omega) | fail)) only [admQ, lq3, aFill, AK.cls, implies_true, if_true, if_false, seval, -List.reduceReplicate, c116, r116, rowOf_own h1, ho', ha1, beq_iff_eq.mpr ha2, h1]
   obtain ⟨r1, r2, -⟩ := done ⟨d.lasts, d.cache, true, d.left, true, d.writes, d.reads⟩ rfl rfl rfl _ rfl
   exact ⟨r1, r2⟩
  ·rw [spendE, spendD, if_neg ho, if_neg ha, if_neg ho, if_neg ha]
   cases har : d.armed with
   | true =>
    have ha2 : ¬ d.left = 0 := fun h => ha ⟨har, h⟩
    simp -implicitDefEqProofs (disch := (first | omega | (simp only [lq3] <;> omega) | fail)) only [admQ, lq3, aFill, AK.cls, implies_true, if_true, if_false, seval, -List.reduceReplicate, c116, r116, rowOf_own h1, ho', har, beq_eq_false_iff_ne.mpr ha2, h1]
    obtain ⟨r1, r2, -⟩ := done ⟨d.lasts, d.cache, true, IntKind.i64.wrap (d.left - 1), false, d.writes, d.reads⟩ rfl rfl rfl _ rfl
    exact ⟨r1, r2⟩
   | false =>
    simp -implicitDefEqProofs (disch := (first | omega | (simp only [lq3] <;> omega) | fail)) only [admQ, lq3, aFill, AK.cls, implies_true, if_true, if_false, seval, -List.reduceReplicate, c116, r116, rowOf_own h1, ho', har, h1]
    obtain ⟨r1, r2, -⟩ := done ⟨d.lasts, d.cache, false, IntKind.i64.wrap (d.left - 1), false, d.writes, d.reads⟩ rfl rfl rfl _ rfl
    exact ⟨r1, r2⟩
theorem ans_dkwrite {m : Mem} {x : Nat} {W R : List Nat} {d : Dk} {y : AV} {b : List B8} (h : Dsk m x W R d) (hy : RdB m y b) (hyW : ∀ q ∈ blkOf y, q ∉ W) (hl : b.length ≤ 100000) (i : Int) :
  Ans Tryz.prog 105 [.ptr x 0, .int .i64 i, y] m fun r m' => r = .int .i64 (writeE d i b) ∧ Kept W m m' ∧ ∃ R', Dsk m' x W R' (writeD d i b) ∧ ∀ q ∈ R', q ∈ R ∨ m.length ≤ q := by
 refine ans_ret mixed ok105 ?_
 have hno : ∀ d', d' = d → Kept W m m ∧ ∃ R', Dsk m x W R' d' ∧ ∀ q ∈ R', q ∈ R ∨ m.length ≤ q := fun d' e => ⟨.refl _ _, R, by rw [e]; exact h, fun q hq => .inl hq⟩
 obtain ⟨pl, pm, pr, lv, es, ck, hWe, hn, h1, -⟩ := h.ex
 by_cases ho : d.off = true
 ·rw [writeE, if_pos ho]
  simp -implicitDefEqProofs (disch := (first | omega | (simp only [lq3] <;> omega) | fail)) only [admQ, lq3, aFill, AK.cls, implies_true, if_true, if_false, seval, -List.reduceReplicate, c105, r105, rowOf_own h1, ho]
  exact hno _ (by rw [writeD, if_pos ho])
 have ho' : d.off = false := by simpa using ho
 simp -implicitDefEqProofs (disch := (first | omega | (simp only [lq3] <;> omega) | fail)) only [admQ, lq3, aFill, AK.cls, implies_true, if_true, if_false, seval, -List.reduceReplicate, c105, r105, rowOf_own h1, ho']
 refine (ans_dkwrong h hy i).mono ?_
 rintro _ M ⟨rfl, hM⟩
 subst hM
 by_cases hw : wrongD d i b = 0
 ·simp -implicitDefEqProofs (disch := (first | omega | (simp only [lq3] <;> omega) | fail)) only [admQ, lq3, aFill, AK.cls, implies_true, if_true, if_false, seval, -List.reduceReplicate, hw]
  refine (ans_dkspend h).mono ?_
  rintro _ m1 ⟨rfl, k1, hD, hml⟩
  have hw2 : ¬ (wrongD d i b ≠ 0) := by simp [hw]
  rw [writeE, if_neg ho, if_neg hw2]
  by_cases hs : spendE d = 0
  ·have hs2 : ¬ (spendE d ≠ 0) := by simp [hs]
   obtain ⟨pl', pm', pr', lv', es', ck', hWe', hn', g1, ⟨g2, g3, g4⟩, ⟨g5, g6, g7⟩, g8, g9⟩ := hD.ex
   have hd1 : (spendD d).cache = d.cache ∧ (spendD d).lasts = d.lasts ∧ (spendD d).reads = d.reads ∧ (spendD d).writes = d.writes := by unfold spendD; split <;> (try split) <;> exact ⟨rfl, rfl, rfl, rfl⟩
   rw [writeD, if_neg ho, if_neg hw2, if_neg hs2]
   simp -implicitDefEqProofs (disch := (first | omega | (simp only [lq3] <;> omega) | fail)) only [admQ, lq3, aFill, AK.cls, implies_true, if_true, if_false, seval, -List.reduceReplicate, hs, rowOf_own g1]
   refine (ans_slclone (rdb_ap hy k1 hyW) (by omega)).mono ?_
   rintro v m2 ⟨k2, g, lo⟩
   have f1 := k2.own g1 (by simp)
   have f5 : m2[pm']? = some (.map es' ck') := by rw [k2.eq pm' (lt_of_get g5) (by simp)]; exact g5
   have hxw : x ∈ W ∧ pm' ∈ W := by rw [hWe']; simp
   have hCR : CchR (RdV m1 W R) es' (spendD d).cache := ⟨g6, g7⟩
   have hset := cch_set f5 hCR i v
   have hn2 := hn'
   rw [hWe'] at hn2
   simp only [List.nodup_cons, List.mem_cons, List.not_mem_nil, or_false, not_or] at hn2
   have lm := lt_of_get f5
   have lx := own_lt f1
   have q1 : own (m2.set pm' (.map (esPut (spendD d).cache i v ck' es') (ckPut (spendD d).cache i ck'))) x = some [.sl pl' 0 (spendD d).lasts.length (spendD d).lasts.length 0, .map pm', .bool (spendD d).armed, .int .i64 (spendD d).left, .bool (spendD d).off, .int .i64 (spendD d).writes, .sl pr' 0 (spendD d).lasts.length (spendD d).lasts.length 0] := own_set_ne' f1 (by omega) _
   simp -implicitDefEqProofs (disch := (first | omega | (simp only [lq3] <;> omega) | fail)) only [admQ, lq3, aFill, AK.cls, implies_true, if_true, if_false, seval, -List.reduceReplicate, rowOf_own f1, rowOf_own g1, mapR, hset, rowOf_own q1, q1]
   have KX : Kept [x, pm'] m2 ((m2.set pm' (.map (esPut (spendD d).cache i v ck' es') (ckPut (spendD d).cache i ck'))).set x (.row [.sl pl' 0 (spendD d).lasts.length (spendD d).lasts.length 0, .map pm', .bool (spendD d).armed, .int .i64 (spendD d).left, .bool (spendD d).off, .int .i64 (IntKind.i64.wrap ((spendD d).writes + 1)), .sl pr' 0 (spendD d).lasts.length (spendD d).lasts.length 0] false)) :=
    (Kept.set (X := [x, pm']) m2 pm' _ (by simp)).trans (.set _ x _ (by simp))
   have x4 := own_set (own_lt q1) [AV.sl pl' 0 (spendD d).lasts.length (spendD d).lasts.length 0, .map pm', .bool (spendD d).armed, .int .i64 (spendD d).left, .bool (spendD d).off, .int .i64 (IntKind.i64.wrap ((spendD d).writes + 1)), .sl pr' 0 (spendD d).lasts.length (spendD d).lasts.length 0]
   have p4 : ((m2.set pm' (.map (esPut (spendD d).cache i v ck' es') (ckPut (spendD d).cache i ck'))).set x (.row [.sl pl' 0 (spendD d).lasts.length (spendD d).lasts.length 0, .map pm', .bool (spendD d).armed, .int .i64 (spendD d).left, .bool (spendD d).off, .int .i64 (IntKind.i64.wrap ((spendD d).writes + 1)), .sl pr' 0 (spendD d).lasts.length (spendD d).lasts.length 0] false))[pm']? = some (.map (esPut (spendD d).cache i v ck' es') (ckPut (spendD d).cache i ck')) := by
    rw [List.getElem?_set_ne (by omega), List.getElem?_set_self lm]
   generalize ((m2.set pm' (.map (esPut (spendD d).cache i v ck' es') (ckPut (spendD d).cache i ck'))).set x (.row [.sl pl' 0 (spendD d).lasts.length (spendD d).lasts.length 0, .map pm', .bool (spendD d).armed, .int .i64 (spendD d).left, .bool (spendD d).off, .int .i64 (IntKind.i64.wrap ((spendD d).writes + 1)), .sl pr' 0 (spendD d).lasts.length (spendD d).lasts.length 0] false)) = m4 at KX x4 p4
   have hnX : ∀ q, q ∉ W → q ∉ [x, pm'] := fun q hq h => by
    simp only [List.mem_cons, List.not_mem_nil, or_false] at h
    rcases h with rfl | rfl
    ·exact hq hxw.1
    ·exact hq hxw.2
   have hold : ∀ v0 l0, RdV m1 W R v0 l0 → RdV m4 W (R ++ blkOf v) v0 l0 := fun v0 l0 hv =>
    ⟨rdb_ap (hv.1.kept0 k2) KX (fun q hq => hnX q (hv.2 q hq).2), fun q hq => ⟨by simp [(hv.2 q hq).1], (hv.2 q hq).2⟩⟩
   have hWlt : ∀ q ∈ W, q < m1.length := fun q hq => hD.lt q (hD.sub q hq)
   have hvW : ∀ q ∈ blkOf v, q ∉ W := fun q hq h => by have := lo q hq; have := hWlt q h; omega
   have hnew : RdV m4 W (R ++ blkOf v) v b := ⟨rdb_ap g.rd KX (fun q hq => hnX q (hvW q hq)), fun q hq => ⟨by simp [hq], hvW q hq⟩⟩
   have hCR4 := CchR.put (hCR.mono hold) hnew i ck'
   have h24 := KX.len
   have h12 := k2.len
   have hlv := g.lt
   refine ⟨(k1.trans (k2.any)).trans (KX.more (fun q hq _ => by simp only [List.mem_cons, List.not_mem_nil, or_false] at hq; rcases hq with rfl | rfl; exact hxw.1; exact hxw.2)), R ++ blkOf v, ⟨⟨pl', pm', pr', lv', _, _, hWe', hn', by rw [x4, hd1.2.2.2], ⟨(KX.own (k2.own g2 (by simp)) (by simp; omega)), g3, fun i l hi => let ⟨v0, e1, e2⟩ := g4 i l hi; ⟨v0, e1, hold _ _ e2⟩⟩, ⟨p4, by rw [← hd1.1]; exact hCR4.1, by rw [← hd1.1]; exact hCR4.2⟩, KX.own (k2.own g8 (by simp)) (by simp; omega), g9⟩, fun q hq => by simp [hD.sub q hq], fun q hq => ?_, by rw [← hd1.1]; exact cPut_keys hD.keys, hD.sz⟩, fun q hq => ?_⟩
   ·rcases List.mem_append.mp hq with h | h
    ·have := hD.lt q h; omega
    ·have := hlv q h; omega
   ·rcases List.mem_append.mp hq with h | h
    ·exact .inl h
    ·right; have := lo q h; omega
  ·have hs2 : spendE d ≠ 0 := hs
   rw [writeD, if_neg ho, if_neg hw2, if_pos hs2]
   simp -implicitDefEqProofs (disch := (first | omega | (simp only [lq3] <;> omega) | fail)) only [admQ, lq3, aFill, AK.cls, implies_true, if_true, if_false, seval, -List.reduceReplicate, beq_eq_false_iff_ne.mpr hs]
   exact ⟨k1, R, hD, fun q hq => .inl hq⟩
 ·rw [writeE, if_neg ho, if_pos hw]
  simp -implicitDefEqProofs (disch := (first | omega | (simp only [lq3] <;> omega) | fail)) only [admQ, lq3, aFill, AK.cls, implies_true, if_true, if_false, seval, -List.reduceReplicate, beq_eq_false_iff_ne.mpr hw]
  exact hno _ (by rw [writeD, if_neg ho, if_pos hw])
end Go.Proofs.YtehnkcnjmfbjpaaGreat
end
section
namespace Go.Proofs.YtehnkcnjmfbjpaaGreat
open Go Go.Adm
set_option linter.unusedSimpArgs false
set_option linter.unusedVariables false
set_option maxRecDepth 100000
theorem ans_dkread {m : Mem} {x : Nat} {W R : List Nat} {d : Dk} (h : Dsk m x W R d) {i : Nat} (hi : i < d.lasts.length) (hsz : (peekD d i).length ≤ 1000000) :
  Ans Tryz.prog 17 [.ptr x 0, .int .i64 i] m fun r m' => Kept W m m' ∧ Dsk m' x W R (readD d i) ∧ ∃ v, r = .tup [v, .int .i64 0] ∧ SPb m.length m' v (peekD d i) := by
 refine ans_ret mixed ok17 ?_
 simp -implicitDefEqProofs (disch := (first | omega | (simp only [lq3] <;> omega) | fail)) only [admQ, lq3, aFill, AK.cls, implies_true, if_true, if_false, seval, -List.reduceReplicate, c17, r17]
 refine (ans_dkthere h i).mono ?_
 rintro _ M ⟨rfl, hM⟩
 subst hM
 obtain ⟨pl, pm, pr, lv, es, ck, rfl, hn, h1, ⟨h2, h3, h4⟩, ⟨h5, h6, h7⟩, h8, h9⟩ := h.ex
 have hok : okI d i := ⟨by omega, by omega⟩
 simp only [List.nodup_cons, List.mem_cons, List.not_mem_nil, or_false, not_or] at hn
 have hir : i < d.reads.length := by omega
 have er : (d.reads.map (AV.int .i64))[i]? = some (.int .i64 d.reads[i]) := by rw [List.getElem?_map, List.getElem?_eq_getElem hir]; rfl
 have hsp : splice (d.reads.map (AV.int .i64)) i [.int .i64 (IntKind.i64.wrap (d.reads[i] + 1))] = (d.reads.set i (IntKind.i64.wrap (d.reads[i] + 1))).map (AV.int .i64) := splice_map hir
 have hmy : readD d i = { d with reads := d.reads.set i (IntKind.i64.wrap (d.reads[i] + 1)) } := by
  unfold readD
  rw [Int.toNat_natCast, List.getElem?_eq_getElem hir]; rfl
 have hlr : (d.reads.map (AV.int .i64)).length = d.lasts.length := by rw [List.length_map, h9]
 simp -implicitDefEqProofs (disch := (first | omega | (simp only [lq3] <;> omega) | fail)) only [admQ, lq3, aFill, AK.cls, implies_true, if_true, if_false, seval, -List.reduceReplicate, dec_t hok, Bool.not_true, rowOf_own h1, rowOf_own h8, er, h8, hsp, hlr]
 have kX := Kept.set1 M pr (.row ((d.reads.set i (IntKind.i64.wrap (d.reads[i] + 1))).map (AV.int .i64)) false)
 have p8 := own_set (own_lt h8) ((d.reads.set i (IntKind.i64.wrap (d.reads[i] + 1))).map (AV.int .i64))
 generalize M.set pr (.row ((d.reads.set i (IntKind.i64.wrap (d.reads[i] + 1))).map (AV.int .i64)) false) = A at kX p8
 have hV : ∀ {v : AV} {l : List B8}, RdV M [x, pl, pm, pr] R v l → RdV A [x, pl, pm, pr] R v l := fun hv => hv.kept kX (fun q hq h => (hv.2 q hq).2 (by simp only [List.mem_singleton] at h; simp [h])) (fun _ h => h)
 have p1 := kX.own h1 (by simp; omega)
 have p2 := kX.own h2 (by simp; omega)
 have p5 : A[pm]? = some (.map es ck) := by rw [kX.eq pm (lt_of_get h5) (by simp; omega)]; exact h5
 have hD : Dsk A x [x, pl, pm, pr] R (readD d i) := by
  rw [hmy]
  exact ⟨⟨pl, pm, pr, lv, es, ck, rfl, by simp [hn], p1, ⟨p2, h3, fun i l hl => let ⟨v, g1, g2⟩ := h4 i l hl; ⟨v, g1, hV g2⟩⟩, ⟨p5, h6, fun j k l hl => let ⟨v, c, g1, g2⟩ := h7 j k l hl; ⟨v, c, g1, hV g2⟩⟩, p8, by simp [h9]⟩, h.sub, fun q hq => Nat.lt_of_lt_of_le (h.lt q hq) kX.len, h.keys, h.sz⟩
 have hCR : CchR (RdV A [x, pl, pm, pr] R) es d.cache := ⟨h6, fun j k l hl => let ⟨v, c, g1, g2⟩ := h7 j k l hl; ⟨v, c, g1, hV g2⟩⟩
 obtain ⟨v, lk, hv⟩ := cch_look p5 hCR i
 have kW : Kept [x, pl, pm, pr] M A := kX.more (by simp)
 cases hg : cGet d.cache i with
 | some l =>
  have hpk : peekD d i = l := by rw [peekD, hg]; rfl
  rw [hg] at hv lk
  rw [hpk] at hsz ⊢
  simp -implicitDefEqProofs (disch := (first | omega | (simp only [lq3] <;> omega) | fail)) only [admQ, lq3, aFill, AK.cls, implies_true, if_true, if_false, seval, -List.reduceReplicate, rowOf_own p1, mapR, lk, Option.isSome_some]
  refine (ans_slclone hv.1 (by omega)).mono ?_
  rintro w m2 ⟨k2, g, lo⟩
  simp -implicitDefEqProofs (disch := (first | omega | (simp only [lq3] <;> omega) | fail)) only [admQ, lq3, aFill, AK.cls, implies_true, if_true, if_false, seval, -List.reduceReplicate]
  have hl := kX.len
  exact ⟨kW.trans k2.any, hD.kept0 k2, w, rfl, .gr g fun q hq => by have := lo q hq; omega⟩
 | none =>
  obtain ⟨v0, e0, hv0⟩ := h4 i _ (List.getElem?_eq_getElem hi)
  have hpk : peekD d i = d.lasts[i] := by rw [peekD, hg, Int.toNat_natCast, List.getElem?_eq_getElem hi]; rfl
  rw [hg] at lk
  rw [hpk] at hsz ⊢
  simp -implicitDefEqProofs (disch := (first | omega | (simp only [lq3] <;> omega) | fail)) only [admQ, lq3, aFill, AK.cls, implies_true, if_true, if_false, seval, -List.reduceReplicate, rowOf_own p1, mapR, lk, Option.isSome_none, rowOf_own p2, e0]
  refine (ans_slclone (hV hv0).1 (by omega)).mono ?_
  rintro w m2 ⟨k2, g, lo⟩
  simp -implicitDefEqProofs (disch := (first | omega | (simp only [lq3] <;> omega) | fail)) only [admQ, lq3, aFill, AK.cls, implies_true, if_true, if_false, seval, -List.reduceReplicate]
  have hl := kX.len
  exact ⟨kW.trans k2.any, hD.kept0 k2, w, rfl, .gr g fun q hq => by have := lo q hq; omega⟩
theorem ans_dktamper {m : Mem} {x : Nat} {W R : List Nat} {d : Dk} {y : AV} {b : List B8} (h : Dsk m x W R d) (hy : RdB m y b) (hl : b.length ≤ 100000) (i : Nat) :
  Ans Tryz.prog 18 [.ptr x 0, .int .i64 i, y] m fun r m' => r = .int .i64 (wrongD d i b) ∧ Kept W m m' ∧ ∃ R', Dsk m' x W R' (tamperD d i b) ∧ ∀ q ∈ R', q ∈ R ∨ m.length ≤ q := by
 refine ans_ret mixed ok18 ?_
 simp -implicitDefEqProofs (disch := (first | omega | (simp only [lq3] <;> omega) | fail)) only [admQ, lq3, aFill, AK.cls, implies_true, if_true, if_false, seval, -List.reduceReplicate, c18, r18]
 refine (ans_dkwrong h hy i).mono ?_
 rintro _ M ⟨rfl, hM⟩
 subst hM
 by_cases hw : wrongD d i b = 0
 ·have hw2 : ¬ (wrongD d i b ≠ 0) := by simp [hw]
  have hi : i < d.lasts.length := by
   unfold wrongD at hw
   split at hw
   ·omega
   ·rename_i h; have := (Decidable.not_not.mp h).2; omega
  obtain ⟨pl, pm, pr, lv, es, ck, rfl, hn, h1, ⟨h2, h3, h4⟩, ⟨h5, h6, h7⟩, h8, h9⟩ := h.ex
  simp only [List.nodup_cons, List.mem_cons, List.not_mem_nil, or_false, not_or] at hn
  rw [hw]
  simp -implicitDefEqProofs (disch := (first | omega | (simp only [lq3] <;> omega) | fail)) only [admQ, lq3, aFill, AK.cls, implies_true, if_true, if_false, seval, -List.reduceReplicate, rowOf_own h1]
  refine (ans_slclone hy (by omega)).mono ?_
  rintro v m2 ⟨k2, g, lo⟩
  have f1 := k2.own h1 (by simp)
  have f2 := k2.own h2 (by simp)
  have f8 := k2.own h8 (by simp)
  have f5 : m2[pm]? = some (.map es ck) := by rw [k2.eq pm (lt_of_get h5) (by simp)]; exact h5
  have hsp : splice lv i [v] = lv.set i v := splice_one lv i v (by omega)
  have hll : lv.length = d.lasts.length := h3
  have p1 := own_set_ne' f1 (show pl ≠ x by omega) (.row (lv.set i v) false)
  have p5 : (m2.set pl (.row (lv.set i v) false))[pm]? = some (.map es ck) := by rw [List.getElem?_set_ne (by omega)]; exact f5
  have hdl := cch_del p5 (P := RdV M [x, pl, pm, pr] R) ⟨h6, h7⟩ i
  simp -implicitDefEqProofs (disch := (first | omega | (simp only [lq3] <;> omega) | fail)) only [admQ, lq3, aFill, AK.cls, implies_true, if_true, if_false, seval, -List.reduceReplicate, rowOf_own f1, rowOf_own f2, f2, hsp, hll, (rd_one g.rd).1, (rd_one g.rd).2, rowOf_own p1, mapR, hdl]
  have lpl := own_lt f2
  have lpm := lt_of_get f5
  have KX : Kept [pl, pm] m2 ((m2.set pl (.row (lv.set i v) false)).set pm (.map (esDel d.cache i es) ck)) := (Kept.set (X := [pl, pm]) m2 pl _ (by simp)).trans (.set _ pm _ (by simp))
  have q5 : ((m2.set pl (.row (lv.set i v) false)).set pm (.map (esDel d.cache i es) ck))[pm]? = some (.map (esDel d.cache i es) ck) := List.getElem?_set_self (by rw [List.length_set]; exact lpm)
  have q2 : own ((m2.set pl (.row (lv.set i v) false)).set pm (.map (esDel d.cache i es) ck)) pl = some (lv.set i v) := own_set_ne' (own_set lpl _) (by omega) _
  generalize ((m2.set pl (.row (lv.set i v) false)).set pm (.map (esDel d.cache i es) ck)) = m4 at KX q5 q2
  have hnX : ∀ q, q ∉ [x, pl, pm, pr] → q ∉ [pl, pm] := fun q hq h => hq (by simp only [List.mem_cons, List.not_mem_nil, or_false] at h ⊢; rcases h with h | h <;> simp [h])
  have hold : ∀ v0 l0, RdV M [x, pl, pm, pr] R v0 l0 → RdV m4 [x, pl, pm, pr] (R ++ blkOf v) v0 l0 := fun v0 l0 hv =>
   ⟨rdb_ap (hv.1.kept0 k2) KX (fun q hq => hnX q (hv.2 q hq).2), fun q hq => ⟨by simp [(hv.2 q hq).1], (hv.2 q hq).2⟩⟩
  have hvW : ∀ q ∈ blkOf v, q ∉ [x, pl, pm, pr] := fun q hq hm => by have := lo q hq; have := h.lt q (h.sub q hm); omega
  have hnew : RdV m4 [x, pl, pm, pr] (R ++ blkOf v) v b := ⟨rdb_ap g.rd KX (fun q hq => hnX q (hvW q hq)), fun q hq => ⟨by simp [hq], hvW q hq⟩⟩
  have hCR4 := (CchR.mono (P := RdV M [x, pl, pm, pr] R) ⟨h6, h7⟩ hold).del i
  have h24 := KX.len
  have h12 := k2.len
  have hlv := g.lt
  rw [tamperD, if_neg hw2]
  refine ⟨(k2.any).trans (KX.more (by simp)), R ++ blkOf v, ⟨⟨pl, pm, pr, lv.set i v, _, _, rfl, by simp [hn], ?_, ⟨q2, by simp [h3], fun j l hj => ?_⟩, ⟨q5, hCR4.1, hCR4.2⟩, KX.own f8 (by simp; omega), by simp [h9]⟩, fun q hq => by simp [h.sub q hq], fun q hq => ?_, cDel_keys h.keys, by simpa using h.sz⟩, fun q hq => ?_⟩
  ·simp only [List.length_set]; exact KX.own f1 (by simp; omega)
  ·simp only [Int.toNat_natCast] at hj
   by_cases hij : i = j
   ·subst hij
    rw [List.getElem?_set_self hi] at hj
    cases hj
    exact ⟨v, List.getElem?_set_self (by omega), hnew⟩
   ·rw [List.getElem?_set_ne hij] at hj
    obtain ⟨v0, e1, e2⟩ := h4 j l hj
    exact ⟨v0, by rw [List.getElem?_set_ne hij]; exact e1, hold _ _ e2⟩
  ·rcases List.mem_append.mp hq with h' | h'
   ·have := h.lt q h'; omega
   ·have := hlv q h'; omega
  ·rcases List.mem_append.mp hq with h' | h'
   ·exact .inl h'
   ·right; have := lo q h'; omega
 ·simp -implicitDefEqProofs (disch := (first | omega | (simp only [lq3] <;> omega) | fail)) only [admQ, lq3, aFill, AK.cls, implies_true, if_true, if_false, seval, -List.reduceReplicate, beq_eq_false_iff_ne.mpr hw]
  exact ⟨.refl _ _, R, by rw [tamperD, if_pos hw]; exact h, fun q hq => .inl hq⟩
def dk0 (n : Nat) : Dk := ⟨List.replicate n [], [], false, 0, false, 0, List.replicate n 0⟩
theorem ans_dknew (n : Nat) (hn : 1 ≤ n ∧ n ≤ 4096) (m : Mem) : Ans Tryz.prog 27 [.int .i64 n] m fun r m' => Kept [] m m' ∧ ∃ x W R, r = .tup [.ptr x 0, .int .i64 0] ∧ Dsk m' x W R (dk0 n) ∧ ∀ q ∈ R, m.length ≤ q := by
 refine ans_ret mixed ok27 ?_
 simp -implicitDefEqProofs (disch := (first | omega | (simp only [lq3] <;> omega) | fail)) only [admQ, lq3, aFill, AK.cls, implies_true, if_true, if_false, seval, -List.reduceReplicate, c27, r27, dec_f (show ¬ (n : Int) < 1 by omega), dec_f (show ¬ (n : Int) > 4096 by omega), mapR, mkMp]
 have r1 : rep n [AV.nils] = List.replicate n .nils := by simp [rep]
 have r2 : rep n [AV.int .i64 0] = (List.replicate n (0 : Int)).map (.int .i64) := by simp [rep]
 refine ⟨.app _ _ _, m.length + 3, [m.length + 3, m.length, m.length + 1, m.length + 2], [m.length + 3, m.length, m.length + 1, m.length + 2], rfl, ⟨⟨m.length, m.length + 1, m.length + 2, List.replicate n .nils, [], 0, rfl, by simp, ?_, ⟨?_, by simp [dk0], fun i l hl => ?_⟩, ⟨?_, rfl, fun j k l hj => by simp [dk0] at hj⟩, ?_, by simp [dk0]⟩, fun q hq => hq, by simp, by simp [dk0], by simp only [dk0, List.length_replicate]; exact hn⟩, by simp⟩
 ·rw [own_app_at]; simp [own, dk0]
 ·rw [own_app_at0, r1]; rfl
 ·simp only [dk0, List.getElem?_replicate] at hl
  split at hl
  ·cases hl
   rename_i hi
   exact ⟨.nils, by rw [List.getElem?_replicate, if_pos hi], .nils _, by simp [blkOf]⟩
  ·cases hl
 ·rw [List.getElem?_append_right (by omega)]; simp
 ·rw [own_app_at, r2]; rfl
end Go.Proofs.YtehnkcnjmfbjpaaGreat
end
section
namespace Go.Proofs.YtehnkcnjmfbjpaaGreat
open Go Go.Adm
set_option linter.unusedSimpArgs false
set_option linter.unusedVariables false
set_option maxRecDepth 100000
def cySm (s : CyS) (b : List B8) : List B8 := match s with
 | .nm S T => nsumB T b
def cyTx (s : CyS) (b : List B8) : CyS := match s with
 | .nm S T => .nm S (addN b T)
def cyTk : CyS → Nat → Prop
 | .nm S T, k => T.length ≤ k
def cySmF : CyS → FuncId
 | .nm _ _ => 143
theorem cym_sum (s : CyS) : methodD Tryz.prog (cyT s) "Sum" = some (cySmF s) := by
 cases s with
 | nm S T =>
  show methodD Tryz.prog 83 "Sum" = some 143
  kernel_rfl
theorem cySm_len (s : CyS) (b : List B8) : (cySm s b).length = 32 := by
 cases s with
 | nm S T => exact nsumB_len T b
theorem cyT_tx (s : CyS) (b : List B8) : cyT (cyTx s b) = cyT s := by cases s <;> rfl
theorem ans_cysum {m : Mem} {x : Nat} {W R : List Nat} {s : CyS} {b : List B8} {y : AV} (hC : Cy m x W R s) (hb : RdB m y b) (hd : ∀ q ∈ blkOf y, q ∉ W) (hk : cyTk s 1000) (hl : b.length ≤ 100000) :
  Ans Tryz.prog (cySmF s) [.ptr x 0, y] m fun r m' => r = .agg (bys (cySm s b)) ∧ Kept W m m' ∧ Cy m' x W R (cyTx s b) := by
 cases s with
 | nm S T =>
  obtain ⟨hN, rfl⟩ := hC
  have hT : T.length ≤ 1000 := hk
  refine (ans_nsum hN hb hd (by omega) hl).mono ?_
  rintro _ m' ⟨rfl, k1, h1⟩
  exact ⟨rfl, k1, h1, rfl⟩
end Go.Proofs.YtehnkcnjmfbjpaaGreat
end
section
namespace Go.Proofs.YtehnkcnjmfbjpaaGreat
open Go Go.Adm
set_option linter.unusedSimpArgs false
set_option linter.unusedVariables false
set_option maxRecDepth 100000
theorem cyOp_le {c : CyS} {e n : Int} {head b pl : List B8} (h : cyOp c e n head b = some pl) : pl.length ≤ b.length := by
 cases c with
 | nm S T =>
  simp only [cyOp] at h
  split at h
  ·simp only [Option.some.injEq] at h; rw [← h]; simp
  ·cases h
theorem getS_le (c : CyS) (k a : Int) (b : List B8) : (getS c k a b).p.length ≤ b.length := by
 unfold getS; split
 ·cases h : cyOp c (nE b) (nN b) (headB k a.toNat) (b.drop 17) with
  | none => simp
  | some pl => have := cyOp_le h; simp at this ⊢; omega
 ·simp [sec0]
end Go.Proofs.YtehnkcnjmfbjpaaGreat
end
section
namespace Go.Proofs.YtehnkcnjmfbjpaaGreat
open Go Go.Adm
set_option linter.unusedSimpArgs false
set_option maxRecDepth 100000
abbrev Sm := {l : List B8 // l.length = 32}
def Sm.zero : Sm := ⟨List.replicate 32 0#8, by simp⟩
structure Rf where
 at_ : Int
 sum : Sm
deriving DecidableEq
def Rf.zero : Rf := ⟨0, Sm.zero⟩
def Rf.cells (r : Rf) : List AV := .int .i64 r.at_ :: bys r.sum.1
theorem Rf.cells_len (r : Rf) : r.cells.length = 33 := by simp [Rf.cells, r.sum.2]
theorem rf_zero : AV.int .i64 0 :: bys (List.replicate 32 0#8) = Rf.zero.cells := rfl
theorem aEq_rf (r s : Rf) : aEqCells (.i :: List.replicate 32 .i) r.cells s.cells = some (r == s) := by
 have e := aEq_bys r.sum.1 s.sum.1 r.sum.2 s.sum.2
 simp only [Rf.cells, aEqCells, aEqCk, e, if_true, Option.bind_some, Option.map_some, Option.some.injEq]
 rw [Bool.eq_iff_iff]
 obtain ⟨a, x⟩ := r
 obtain ⟨b, y⟩ := s
 simp [Subtype.ext_iff]
structure Nd where
 st : Int
 ref : Rf
deriving DecidableEq
def Nd.cells (n : Nd) : List AV := .int .i64 n.st :: n.ref.cells
theorem Nd.cells_len (n : Nd) : n.cells.length = 34 := by simp [Nd.cells, Rf.cells_len]
structure Tr where
 bl : List Rf
 nd : List Nd
 hb : bl.length = 64
 hn : nd.length = 9
def Tr.row (t : Tr) : List AV := flatOf Rf.cells t.bl ++ flatOf Nd.cells t.nd
theorem Tr.bl_len (t : Tr) : (flatOf Rf.cells t.bl).length = 2112 := by rw [flatOf_length Rf.cells_len, t.hb]
theorem Tr.nd_len (t : Tr) : (flatOf Nd.cells t.nd).length = 306 := by rw [flatOf_length Nd.cells_len, t.hn]
theorem Tr.row_len (t : Tr) : t.row.length = 2418 := by rw [Tr.row, List.length_append, t.bl_len, t.nd_len]
def Tr.b (t : Tr) (i : Nat) : Rf := t.bl.getD i Rf.zero
def Tr.n (t : Tr) (i : Nat) : Nd := t.nd.getD i ⟨0, Rf.zero⟩
theorem Tr.b_get (t : Tr) {i : Nat} (h : i < 64) : t.bl[i]? = some (t.b i) := by simp [Tr.b, t.hb, h]
theorem Tr.n_get (t : Tr) {i : Nat} (h : i < 9) : t.nd[i]? = some (t.n i) := by simp [Tr.n, t.hn, h]
theorem Tr.b_part (t : Tr) {i : Nat} (h : i < 64) : (t.row.drop (i * 33)).take 33 = (t.b i).cells := by
 have hi : i < t.bl.length := by rw [t.hb]; exact h
 have e := flatOf_get Rf.cells_len t.bl i hi
 have hle : i * 33 + 33 ≤ (flatOf Rf.cells t.bl).length := by rw [t.bl_len]; omega
 rw [Tr.row, List.drop_append_of_le_length (by omega), List.take_append_of_le_length (by simp; omega), e]
 have := t.b_get h
 rw [List.getElem?_eq_getElem hi, Option.some.injEq] at this
 rw [this]
theorem Tr.n_part (t : Tr) {i : Nat} (h : i < 9) : (t.row.drop (2112 + i * 34)).take 34 = (t.n i).cells := by
 have hi : i < t.nd.length := by rw [t.hn]; exact h
 have e := flatOf_get Nd.cells_len t.nd i hi
 rw [Tr.row, ← t.bl_len, ← List.drop_drop, List.drop_left, e]
 have := t.n_get h
 rw [List.getElem?_eq_getElem hi, Option.some.injEq] at this
 rw [this]
theorem cell_of_part {l c : List AV} {o k j : Nat} (h : (l.drop o).take k = c) (hj : j < k) : l[o + j]? = c[j]? := by
 rw [← h, List.getElem?_take_of_lt hj, List.getElem?_drop]
theorem Tr.n_st (t : Tr) {i : Nat} (h : i < 9) : t.row[2112 + i * 34]? = some (.int .i64 (t.n i).st) := cell_of_part (j := 0) (t.n_part h) (by omega)
theorem Tr.n_ref (t : Tr) {i : Nat} (h : i < 9) : (t.row.drop (2112 + i * 34 + 1)).take 33 = (t.n i).ref.cells := by
 have := congrArg (fun l => (l.drop 1).take 33) (t.n_part h)
 simp only [List.drop_take, List.drop_drop, List.take_take] at this
 rw [show Min.min 33 (34 - 1) = 33 from rfl] at this
 rw [this]
 simp only [Nd.cells, List.drop_succ_cons, List.drop_zero]
 exact List.take_of_length_le (by rw [Rf.cells_len]; exact Nat.le_refl _)
def Tr.setB (t : Tr) (i : Nat) (r : Rf) : Tr := ⟨t.bl.set i r, t.nd, by simp [t.hb], t.hn⟩
def Tr.setN (t : Tr) (i : Nat) (r : Nd) : Tr := ⟨t.bl, t.nd.set i r, t.hb, by simp [t.hn]⟩
theorem splice_app_l {a b c : List AV} {o : Nat} (h : o + c.length ≤ a.length) : splice (a ++ b) o c = splice a o c ++ b := by
 unfold splice
 rw [List.take_append_of_le_length (by omega), List.drop_append_of_le_length (by omega), List.append_assoc, List.append_assoc, List.append_assoc]
theorem splice_app_r {a b c : List AV} {o : Nat} : splice (a ++ b) (a.length + o) c = a ++ splice b o c := by
 unfold splice
 rw [List.take_length_add_append, Nat.add_assoc, ← List.drop_drop, List.drop_left, List.append_assoc, List.append_assoc, List.append_assoc]
theorem Tr.setB_row (t : Tr) {i : Nat} (h : i < 64) (r : Rf) : splice t.row (i * 33) r.cells = (t.setB i r).row := by
 rw [Tr.row, splice_app_l (by rw [t.bl_len, Rf.cells_len]; omega), flatOf_set Rf.cells_len t.bl i r (by rw [t.hb]; exact h)]
 rfl
theorem Tr.setN_row (t : Tr) {i : Nat} (h : i < 9) (r : Nd) : splice t.row (2112 + i * 34) r.cells = (t.setN i r).row := by
 rw [Tr.row, ← t.bl_len, splice_app_r, flatOf_set Nd.cells_len t.nd i r (by rw [t.hn]; exact h)]
 rfl
theorem Tr.setB_b (t : Tr) (i j : Nat) (r : Rf) (h : i < 64) : (t.setB i r).b j = if i = j then r else t.b j := by
 simp only [Tr.b, Tr.setB, List.getD_eq_getElem?_getD, List.getElem?_set, t.hb]
 split
 ·rename_i e; subst e; simp [h]
 ·rfl
theorem Tr.setN_n (t : Tr) (i j : Nat) (r : Nd) (h : i < 9) : (t.setN i r).n j = if i = j then r else t.n j := by
 simp only [Tr.n, Tr.setN, List.getD_eq_getElem?_getD, List.getElem?_set, t.hn]
 split
 ·rename_i e; subst e; simp [h]
 ·rfl
theorem Tr.setN_b (t : Tr) (i j : Nat) (r : Nd) : (t.setN i r).b j = t.b j := rfl
end Go.Proofs.YtehnkcnjmfbjpaaGreat
end
section
namespace Go.Proofs.YtehnkcnjmfbjpaaGreat
open Go Go.Adm
set_option linter.unusedSimpArgs false
set_option maxRecDepth 100000
set_option maxHeartbeats 1000000
theorem aEq_rf' (r s : Rf) : aEqCells (List.replicate 33 .i) r.cells s.cells = some (r == s) := aEq_rf r s
theorem splice_rf (a b : Rf) : splice a.cells 0 b.cells = b.cells := by
 simp [splice, Rf.cells_len, List.drop_of_length_le]
theorem take_rf (a : Rf) : a.cells.take 33 = a.cells := List.take_of_length_le (by rw [a.cells_len]; exact Nat.le_refl _)
theorem splice_nd (a b : Nd) : splice a.cells 0 b.cells = b.cells := by
 simp [splice, Nd.cells_len, List.drop_of_length_le]
theorem take_nd (a : Nd) : a.cells.take 34 = a.cells := List.take_of_length_le (by rw [a.cells_len]; exact Nat.le_refl _)
theorem drop_nd (a : Nd) : (a.cells.drop 1).take 33 = a.ref.cells := take_rf a.ref
theorem nd_st (a : Nd) : a.cells[0]? = some (.int .i64 a.st) := rfl
theorem nd_at (a : Nd) : a.cells[1]? = some (.int .i64 a.ref.at_) := rfl
theorem rf_at (a : Rf) : a.cells[0]? = some (.int .i64 a.at_) := rfl
def Tr.at (t : Tr) (k : Int) : Rf := if 0 ≤ k ∧ k < 64 then t.b k.toNat else Rf.zero
theorem Tr.at_nat (t : Tr) {k : Nat} (h : k < 64) : t.at (k : Int) = t.b k := by rw [Tr.at, if_pos (by omega), Int.toNat_natCast]
theorem Tr.at_out (t : Tr) {k : Int} (h : ¬ (0 ≤ k ∧ k < 64)) : t.at k = Rf.zero := by rw [Tr.at, if_neg h]
def lq4 := And.intro @lenB (And.intro @Tr.row_len (And.intro @Rf.cells_len (@Nd.cells_len)))
theorem ans_within (n lo hi : Int) (m : Mem) : Ans Tryz.prog 54 [.int .i64 n, .int .i64 lo, .int .i64 hi] m fun r m' => r = .bool (decide (lo ≤ n ∧ n ≤ hi)) ∧ m' = m := by
 refine ans_ret mixed ok54 ?_
 by_cases h1 : lo ≤ n
 ·by_cases h2 : n ≤ hi
  ·have d : decide (lo ≤ n ∧ n ≤ hi) = true := decide_eq_true ⟨h1, h2⟩
   simp -implicitDefEqProofs (disch := (first | omega | (simp only [lq4] <;> omega) | fail)) only [admQ, lq4, aFill, AK.cls, implies_true, if_true, if_false, seval, -List.reduceReplicate, c54, r54, d, dec_t, dec_f]
  ·have d : decide (lo ≤ n ∧ n ≤ hi) = false := decide_eq_false (fun h => h2 h.2)
   simp -implicitDefEqProofs (disch := (first | omega | (simp only [lq4] <;> omega) | fail)) only [admQ, lq4, aFill, AK.cls, implies_true, if_true, if_false, seval, -List.reduceReplicate, c54, r54, d, dec_t, dec_f]
 ·have d : decide (lo ≤ n ∧ n ≤ hi) = false := decide_eq_false (fun h => h1 h.1)
  simp -implicitDefEqProofs (disch := (first | omega | (simp only [lq4] <;> omega) | fail)) only [admQ, lq4, aFill, AK.cls, implies_true, if_true, if_false, seval, -List.reduceReplicate, c54, r54, d, dec_t, dec_f]
theorem ans_has {m : Mem} {p : Nat} {t : Tr} (hp : own m p = some t.row) (k : Int) : Ans Tryz.prog 40 [.ptr p 0, .int .i64 k] m fun r m' => r = .bool (!(t.at k == Rf.zero)) ∧ m' = m := by
 refine ans_ret mixed ok40 ?_
 simp -implicitDefEqProofs (disch := (first | omega | (simp only [lq4] <;> omega) | fail)) only [admQ, lq4, aFill, AK.cls, implies_true, if_true, if_false, seval, -List.reduceReplicate, c40, r40]
 refine (ans_within k 0 63 m).mono ?_
 rintro _ m' ⟨rfl, rfl⟩
 by_cases h : 0 ≤ k ∧ k < 64
 ·obtain ⟨k, rfl⟩ := Int.eq_ofNat_of_zero_le h.1
  have hk : k < 64 := by omega
  have d : decide (0 ≤ (k : Int) ∧ (k : Int) ≤ 63) = true := decide_eq_true (by omega)
  have e := t.b_part hk
  have ez := aEq_rf' (t.b k) Rf.zero
  rw [t.at_nat hk]
  simp -implicitDefEqProofs (disch := (first | omega | (simp only [lq4] <;> omega) | fail)) only [admQ, lq4, aFill, AK.cls, implies_true, if_true, if_false, seval, -List.reduceReplicate, rowOf_own hp, d, e, rf_zero, ez]
 ·have d : decide (0 ≤ k ∧ k ≤ 63) = false := decide_eq_false (by omega)
  rw [t.at_out h]
  simp -implicitDefEqProofs (disch := (first | omega | (simp only [lq4] <;> omega) | fail)) only [admQ, lq4, aFill, AK.cls, implies_true, if_true, if_false, seval, -List.reduceReplicate, d]
theorem ans_get {m : Mem} {p : Nat} {t : Tr} (hp : own m p = some t.row) (k : Int) : Ans Tryz.prog 11 [.ptr p 0, .int .i64 k] m fun r m' => r = .tup [.agg (t.at k).cells, .bool (!(t.at k == Rf.zero))] ∧ Kept [] m m' := by
 refine ans_ret mixed ok11 ?_
 simp -implicitDefEqProofs (disch := (first | omega | (simp only [lq4] <;> omega) | fail)) only [admQ, lq4, aFill, AK.cls, implies_true, if_true, if_false, seval, -List.reduceReplicate, c11, r11, rf_zero]
 refine (ans_has (own_app hp _) k).mono ?_
 rintro _ m' ⟨rfl, rfl⟩
 by_cases hz : t.at k = Rf.zero
 ·simp -implicitDefEqProofs (disch := (first | omega | (simp only [lq4] <;> omega) | fail)) only [admQ, lq4, aFill, AK.cls, implies_true, if_true, if_false, seval, -List.reduceReplicate, hz, rf_zero, beq_self_eq_true, splice_rf, take_rf]
  exact .app _ _ _
 ·have h : 0 ≤ k ∧ k < 64 := Classical.byContradiction fun h => hz (t.at_out h)
  obtain ⟨k, rfl⟩ := Int.eq_ofNat_of_zero_le h.1
  have hk : k < 64 := by omega
  rw [t.at_nat hk] at *
  have e := t.b_part hk
  simp -implicitDefEqProofs (disch := (first | omega | (simp only [lq4] <;> omega) | fail)) only [admQ, lq4, aFill, AK.cls, implies_true, if_true, if_false, seval, -List.reduceReplicate, rowOf_own (own_app hp _), e, rf_zero, beq_eq_false_iff_ne.mpr hz, splice_rf, take_rf]
  exact .app _ _ _
theorem ans_leaf (k : Nat) (hk : k < 64) (m : Mem) : Ans Tryz.prog 76 [.int .i64 k] m fun r m' => r = .tup [.int .i64 (k / 8 + 1 : Nat), .int .i64 (k % 8 : Nat)] ∧ m' = m := by
 refine ans_ret mixed ok76 ?_
 simp -implicitDefEqProofs (disch := (first | omega | (simp only [lq4] <;> omega) | fail)) only [admQ, lq4, aFill, AK.cls, implies_true, if_true, if_false, seval, -List.reduceReplicate, c76, r76, dec_t, dec_f]
end Go.Proofs.YtehnkcnjmfbjpaaGreat
end
section
namespace Go.Proofs.YtehnkcnjmfbjpaaGreat
open Go Go.Adm
set_option linter.unusedSimpArgs false
set_option maxRecDepth 100000
set_option maxHeartbeats 1000000
def nats (l : List Nat) : List AV := l.map fun i : Nat => AV.int .i64 (i : Int)
theorem nats_get {l : List Nat} {i v : Nat} (h : l[i]? = some v) : (nats l)[i]? = some (.int .i64 (v : Int)) := by simp [nats, h]
theorem nats_len (l : List Nat) : (nats l).length = l.length := by simp [nats]
def Nd.dirty : Nd := ⟨2, Rf.zero⟩
def Nd.none : Nd := ⟨0, Rf.zero⟩
theorem nd_zero : AV.int .i64 0 :: .int .i64 0 :: bys (List.replicate 32 0#8) = Nd.none.cells := rfl
theorem nd_dirty : AV.int .i64 2 :: .int .i64 0 :: bys (List.replicate 32 0#8) = Nd.dirty.cells := rfl
theorem nd_dirt : splice Nd.none.cells 0 [.int .i64 2] = Nd.dirty.cells := rfl
theorem nd_zero2 : AV.int .i64 0 :: Rf.zero.cells = Nd.none.cells := rfl
def Tr.gone (t : Tr) (i : Nat) : List Rf := if (t.n i).st = 1 ∧ 0 < (t.n i).ref.at_ then [(t.n i).ref] else []
def Tr.spoilT (t : Tr) : List Nat → Tr
 | [] => t
 | i :: l => (t.setN i Nd.dirty).spoilT l
def Tr.spoilR (t : Tr) : List Nat → List Rf
 | [] => []
 | i :: l => t.gone i ++ (t.setN i Nd.dirty).spoilR l
abbrev RfL := GrL Rf.cells 33
theorem ans_spoil {m : Mem} {p q : Nat} {t : Tr} (hp : own m p = some t.row) (idx : List Nat) (hi : ∀ i ∈ idx, i < 9) (hq : own m q = some (nats idx)) (hk : idx.length ≤ 9) :
  Ans Tryz.prog 77 [.ptr p 0, .sl q 0 idx.length idx.length 0] m fun r m' => RfL m.length m' r (t.spoilR idx) ∧ Kept [p] m m' ∧ own m' p = some (t.spoilT idx).row := by
 refine ans_ret mixed ok77 ?_
 have hpq : q ≠ p := by
  rintro rfl
  rw [hp, Option.some.injEq] at hq
  have := congrArg List.length hq
  rw [t.row_len, nats_len] at this
  omega
 have hpl := own_lt hp
 generalize hn : idx.length = n at *
 simp -implicitDefEqProofs (disch := (first | omega | (simp only [lq4] <;> omega) | fail)) only [admQ, lq4, aFill, AK.cls, implies_true, if_true, if_false, seval, -List.reduceReplicate, c77, r77]
 refine LoopW.on (fun s : Nat × AV × Tr × List Rf => [(0, .ptr p 0), (5, s.2.1), (9, .sl q 0 n n 0), (10, .int .i64 n), (11, .int .i64 s.1)]) (fun s => n - s.1)
  (fun s m' => s.1 ≤ n ∧ Kept [p] m m' ∧ own m' p = some s.2.2.1.row ∧ RfL m.length m' s.2.1 s.2.2.2 ∧ s.2.2.2 ++ s.2.2.1.spoilR (idx.drop s.1) = t.spoilR idx ∧ s.2.2.1.spoilT (idx.drop s.1) = t.spoilT idx ∧ s.2.2.2.length ≤ s.1) ?_ (0, .nils, t, []) _ _ rfl ⟨by omega, .refl _ _, hp, .nils .., rfl, rfl, by simp⟩
 rintro ⟨j, x, t', l⟩ m' X ⟨hj, hkk, hp', hx, hr, ht, hl⟩ hX
 dsimp only at hj hkk hp' hx hr ht hl hX ⊢
 by_cases hlt : j < n
 ·have hjj : j < idx.length := by omega
  obtain ⟨i, hij⟩ : ∃ i, idx[j]? = some i := ⟨_, List.getElem?_eq_getElem hjj⟩
  have hi9 : i < 9 := hi i (List.mem_of_getElem? hij)
  have hd : idx.drop j = i :: idx.drop (j + 1) := by
   rw [List.drop_eq_getElem_cons hjj]; rw [List.getElem?_eq_getElem hjj, Option.some.injEq] at hij; rw [hij]
  rw [hd] at hr ht
  simp only [Tr.spoilR, Tr.spoilT] at hr ht
  have hq' := hkk.own hq (by simpa using hpq)
  have e1 := nats_get hij
  have e2 := t'.n_part hi9
  have hpm := own_lt hp'
  have hs := t'.setN_row hi9 Nd.dirty
  by_cases hc : (t'.n i).st = 1 ∧ 0 < (t'.n i).ref.at_
  ·have hg : t'.gone i = [(t'.n i).ref] := if_pos hc
   have hxp := fun b hb => Nat.ne_of_gt (Nat.lt_of_lt_of_le hpl (hx.blk b hb))
   have hxx := hx.kept0 (.app [] m' [.row (t'.n i).cells false])
   obtain ⟨x', m2, ha, hg2, hk2, hf2, hb2⟩ := hxx.push (bytes := 40) Rf.cells_len (by omega) (t'.n i).ref (by omega) (by have := hkk.len; simp; omega)
   rw [List.length_append, List.append_assoc] at ha
   simp only [List.length_singleton, List.singleton_append] at ha
   have hp2 := hk2.own (own_app hp' _) (fun h => hxp p h rfl)
   have hf3 := hf2 [p] m (hkk.more_app _) (Nat.le_refl _)
   have hlen : p < m2.length := own_lt hp2
   simp -implicitDefEqProofs (disch := (first | omega | (simp only [lq4] <;> omega) | fail)) only [admQ, lq4, aFill, AK.cls, implies_true, if_true, if_false, seval, -List.reduceReplicate, rowOf_own hq', rowOf_own hp', own_app hp', e1, e2, nd_zero, nd_dirty, splice_nd, take_nd, drop_nd, nd_st, nd_at, hc.1, beq_self_eq_true, dec_t, dec_f, nd_dirt, hs, rf_zero, nd_zero2, splice_rf, ha, hp2]
   exact hX (j + 1, x', t'.setN i Nd.dirty, l ++ [(t'.n i).ref]) _ _ rfl (by simp; omega) ⟨by simp; omega, hf3.trans (.set1 _ _ _), own_set hlen _, hg2.kept (.set1 _ _ _) (fun b hb => by have := hb2 b hb; simp at this; simp; omega), by rw [List.append_assoc, ← hg]; exact hr, ht, by simp; omega⟩
  ·have hg : t'.gone i = [] := if_neg hc
   have hfin : ∀ m2, m2 = List.set (m' ++ [.row (t'.n i).cells false]) p (.row (t'.setN i Nd.dirty).row false) → Kept [p] m m2 ∧ own m2 p = some (t'.setN i Nd.dirty).row ∧ RfL m.length m2 x l := by
    rintro _ rfl
    have h1 : Kept [p] m' (m' ++ [.row (t'.n i).cells false]) := .app _ _ _
    have h2 := h1.trans (.set1 _ p (.row (t'.setN i Nd.dirty).row false))
    exact ⟨hkk.trans h2, own_set (own_lt (own_app hp' _)) _, hx.kept h2 (fun b hb => by have := hx.blk b hb; simp; omega)⟩
   by_cases hc1 : (t'.n i).st = 1
   ·have hc2 : ¬ 0 < (t'.n i).ref.at_ := fun h => hc ⟨hc1, h⟩
    simp -implicitDefEqProofs (disch := (first | omega | (simp only [lq4] <;> omega) | fail)) only [admQ, lq4, aFill, AK.cls, implies_true, if_true, if_false, seval, -List.reduceReplicate, rowOf_own hq', rowOf_own hp', own_app hp', e1, e2, nd_zero, nd_dirty, splice_nd, take_nd, nd_st, nd_at, hc1, beq_self_eq_true, dec_t, dec_f, nd_dirt, hs]
    obtain ⟨f1, f2, f3⟩ := hfin _ rfl
    exact hX (j + 1, x, t'.setN i Nd.dirty, l) _ _ rfl (by simp; omega) ⟨by simp; omega, f1, f2, f3, by rw [hg] at hr; exact hr, ht, by simp; omega⟩
   ·simp -implicitDefEqProofs (disch := (first | omega | (simp only [lq4] <;> omega) | fail)) only [admQ, lq4, aFill, AK.cls, implies_true, if_true, if_false, seval, -List.reduceReplicate, rowOf_own hq', rowOf_own hp', own_app hp', e1, e2, nd_zero, nd_dirty, splice_nd, take_nd, nd_st, nd_at, beq_eq_false_iff_ne.mpr hc1, nd_dirt, hs]
    obtain ⟨f1, f2, f3⟩ := hfin _ rfl
    exact hX (j + 1, x, t'.setN i Nd.dirty, l) _ _ rfl (by simp; omega) ⟨by simp; omega, f1, f2, f3, by rw [hg] at hr; exact hr, ht, by simp; omega⟩
 ·obtain rfl : j = n := by omega
  rw [List.drop_eq_nil_of_le (by omega)] at hr ht
  simp only [Tr.spoilR, Tr.spoilT, List.append_nil] at hr ht
  simp -implicitDefEqProofs (disch := (first | omega | (simp only [lq4] <;> omega) | fail)) only [admQ, lq4, aFill, AK.cls, implies_true, if_true, if_false, seval, -List.reduceReplicate]
  exact ⟨by rw [← hr]; exact hx, hkk, by rw [← ht]; exact hp'⟩
end Go.Proofs.YtehnkcnjmfbjpaaGreat
end
section
namespace Go.Proofs.YtehnkcnjmfbjpaaGreat
open Go Go.Adm
set_option linter.unusedSimpArgs false
set_option maxRecDepth 100000
set_option maxHeartbeats 1000000
def Tr.old (t : Tr) (k : Nat) : List Rf := if t.b k = Rf.zero then [] else [t.b k]
def Tr.setOk (k : Int) (r : Rf) : Prop := (0 ≤ k ∧ k < 64) ∧ 1 ≤ r.at_
instance (k : Int) (r : Rf) : Decidable (Tr.setOk k r) := inferInstanceAs (Decidable (_ ∧ _))
def Tr.setT (t : Tr) (k : Int) (r : Rf) : Tr := if Tr.setOk k r then (t.setB k.toNat r).spoilT [k.toNat / 8 + 1, 0] else t
def Tr.setR (t : Tr) (k : Int) (r : Rf) : List Rf := if Tr.setOk k r then t.old k.toNat ++ (t.setB k.toNat r).spoilR [k.toNat / 8 + 1, 0] else []
theorem Tr.gone_len (t : Tr) (i : Nat) : (t.gone i).length ≤ 1 := by unfold Tr.gone; split <;> simp
theorem Tr.spoilR_len (l : List Nat) : ∀ t : Tr, (t.spoilR l).length ≤ l.length := by
 induction l with
 | nil => intro t; simp [Tr.spoilR]
 | cons i l ih => intro t; have := ih (t.setN i Nd.dirty); have := t.gone_len i; simp [Tr.spoilR]; omega
def setTail : ACode := tlC (tlC (tlC (tlC c38)))
theorem setCode : c38 = .seq (hdC c38) (.seq (hdC (tlC c38)) (.seq (hdC (tlC (tlC c38))) (.seq (hdC (tlC (tlC (tlC c38)))) setTail))) := rfl
theorem set_tail {m M : Mem} {p q : Nat} {t : Tr} {x : AV} {old : List Rf} {k : Nat} {r : Rf} (hkM : Kept [p] m M) (hp : own M p = some t.row) (hq : own M q = some r.cells) (hx : RfL m.length M x old) (hold : old.length ≤ 1) (hm : p < m.length) (hk : k < 64) {e : AFr} (he : e = [] ∨ e = [(20, .bool false)]) :
  wpA Tryz.prog setTail ((0, .ptr p 0) :: (1, .int .i64 k) :: (5, .ptr q 0) :: (7, x) :: e) M (retQ [.tmp 6] fun x' m' => RfL m.length m' x' (old ++ (t.setB k r).spoilR [k / 8 + 1, 0]) ∧ Kept [p] m m' ∧ own m' p = some ((t.setB k r).spoilT [k / 8 + 1, 0]).row) := by
 rcases he with rfl | rfl
 all_goals
  simp only [setTail, tlC, c38]
  have hs := t.setB_row hk r
  simp -implicitDefEqProofs (disch := (first | omega | (simp only [lq4] <;> omega) | fail)) only [admQ, lq4, aFill, AK.cls, implies_true, if_true, if_false, seval, -List.reduceReplicate, rowOf_own hq, hp, take_rf, hs]
  have hp1 : own (List.set M p (.row (t.setB k r).row false)) p = some (t.setB k r).row := own_set (own_lt hp) _
  have hk1 := hkM.trans (.set1 M p (.row (t.setB k r).row false))
  have hx1 := hx.kept (.set1 M p (.row (t.setB k r).row false)) (fun b hb => by have := hx.blk b hb; simp; omega)
  generalize List.set M p (Blk.row (t.setB k r).row false) = M1 at *
  refine (ans_leaf k hk M1).mono ?_
  rintro _ m' ⟨rfl, rfl⟩
  simp -implicitDefEqProofs (disch := (first | omega | (simp only [lq4] <;> omega) | fail)) only [admQ, lq4, aFill, AK.cls, implies_true, if_true, if_false, seval, -List.reduceReplicate]
  have hl1 := hk1.len
  refine (ans_spoil (own_app hp1 _) [k / 8 + 1, 0] (by simp; omega) (q := m'.length) (by rw [own_app_at0]; rfl) (by simp)).mono ?_
  rintro y M2 ⟨hy, hk2, hp2⟩
  have hk2' : Kept [p] m' M2 := (Kept.app [p] m' _).trans hk2
  have hx2 := hx1.kept hk2' (fun b hb => by have := hx.blk b hb; simp; omega)
  have hsl := (t.setB k r).spoilR_len [k / 8 + 1, 0]
  have hl2 := hk2'.len
  obtain ⟨z, M3, ha, hg3, hk3, hf3, -, -⟩ := hx2.pushs (bytes := 40) Rf.cells_len (by omega) hy (by simp at hsl; omega) (by omega)
  simp -implicitDefEqProofs (disch := (first | omega | (simp only [lq4] <;> omega) | fail)) only [admQ, lq4, aFill, AK.cls, implies_true, if_true, if_false, seval, -List.reduceReplicate, ha]
  exact ⟨hg3, hf3 _ _ (hk1.trans hk2') (Nat.le_refl _), hk3.own hp2 (fun h => by have := hx.blk _ h; omega)⟩
theorem ans_set {m : Mem} {p : Nat} {t : Tr} (hp : own m p = some t.row) (k : Int) (r : Rf) :
  Ans Tryz.prog 38 [.ptr p 0, .int .i64 k, .agg r.cells] m fun x m' => RfL m.length m' x (t.setR k r) ∧ Kept [p] m m' ∧ own m' p = some (t.setT k r).row := by
 refine ans_ret mixed ok38 ?_
 have hpl := own_lt hp
 rw [setCode]
 simp -implicitDefEqProofs (disch := (first | omega | (simp only [lq4] <;> omega) | fail)) only [admQ, lq4, aFill, AK.cls, implies_true, if_true, if_false, seval, -List.reduceReplicate, hdC, tlC, c38, r38]
 refine (ans_within k 0 63 _).mono ?_
 rintro _ m' ⟨rfl, rfl⟩
 by_cases h : 0 ≤ k ∧ k < 64
 ·obtain ⟨k, rfl⟩ := Int.eq_ofNat_of_zero_le h.1
  have hk : k < 64 := by omega
  have d : decide (0 ≤ (k : Int) ∧ (k : Int) ≤ 63) = true := decide_eq_true (by omega)
  by_cases hr : r.at_ < 1
  ·rw [Tr.setR, Tr.setT, if_neg (fun h => by have := h.2; omega), if_neg (fun h => by have := h.2; omega)]
   simp -implicitDefEqProofs (disch := (first | omega | (simp only [lq4] <;> omega) | fail)) only [admQ, lq4, aFill, AK.cls, implies_true, if_true, if_false, seval, -List.reduceReplicate, d, rf_at, dec_t, dec_f]
   exact ⟨.nils .., .app _ _ _, own_app hp _⟩
  ·have ho : Tr.setOk k r := ⟨h, by omega⟩
   rw [Tr.setR, Tr.setT, if_pos ho, if_pos ho, Int.toNat_natCast]
   simp -implicitDefEqProofs (disch := (first | omega | (simp only [lq4] <;> omega) | fail)) only [admQ, lq4, aFill, AK.cls, implies_true, if_true, if_false, seval, -List.reduceReplicate, d, rf_at, dec_t, dec_f]
   refine (ans_has (own_app hp _) k).mono ?_
   rintro _ M ⟨rfl, rfl⟩
   rw [t.at_nat hk]
   have hkM : Kept [p] m (m ++ [.row r.cells false]) := .app _ _ _
   have hq : own (m ++ [.row r.cells false]) m.length = some r.cells := by rw [own_app_at0]; rfl
   have hpM := own_app hp [.row r.cells false]
   have hlM : (m ++ [Blk.row r.cells false]).length = m.length + 1 := by simp
   generalize m ++ [Blk.row r.cells false] = M at *
   by_cases hz : t.b k = Rf.zero
   ·simp -implicitDefEqProofs (disch := (first | omega | (simp only [lq4] <;> omega) | fail)) only [admQ, lq4, aFill, AK.cls, implies_true, if_true, if_false, seval, -List.reduceReplicate, hz, beq_self_eq_true]
    rw [Tr.old, if_pos hz]
    exact set_tail hkM hpM hq (.nils ..) (by simp) hpl hk (.inr rfl)
   ·have e := t.b_part hk
    obtain ⟨x', m2, ha, hg2, hk2, hf2, hb2⟩ := (GrL.nils Rf.cells 33 m.length M).push (bytes := 40) Rf.cells_len (by omega) (t.b k) (by simp) (by omega)
    simp -implicitDefEqProofs (disch := (first | omega | (simp only [lq4] <;> omega) | fail)) only [admQ, lq4, aFill, AK.cls, implies_true, if_true, if_false, seval, -List.reduceReplicate, beq_eq_false_iff_ne.mpr hz, rowOf_own hpM, e, rf_zero, splice_rf, ha]
    rw [Tr.old, if_neg hz]
    exact set_tail (hf2 _ _ hkM (Nat.le_refl _)) (hk2.own hpM (by simp [blkOf])) (hk2.own hq (by simp [blkOf])) hg2 (by simp) hpl hk (.inl rfl)
 ·rw [Tr.setR, Tr.setT, if_neg (fun h' => h h'.1), if_neg (fun h' => h h'.1)]
  have d : decide (0 ≤ k ∧ k ≤ 63) = false := decide_eq_false (by omega)
  simp -implicitDefEqProofs (disch := (first | omega | (simp only [lq4] <;> omega) | fail)) only [admQ, lq4, aFill, AK.cls, implies_true, if_true, if_false, seval, -List.reduceReplicate, d, dec_t, dec_f]
  exact ⟨.nils .., .app _ _ _, own_app hp _⟩
end Go.Proofs.YtehnkcnjmfbjpaaGreat
end
section
namespace Go.Proofs.YtehnkcnjmfbjpaaGreat
open Go Go.Adm
set_option linter.unusedSimpArgs false
set_option maxRecDepth 100000
set_option maxHeartbeats 1000000
def SlR (m : Mem) (p o n : Nat) (rs : Nat → Rf) : Prop := ∃ cells, rowOf m p = some cells ∧ o + n * 33 ≤ cells.length ∧ ∀ i, i < n → (cells.drop (o + i * 33)).take 33 = (rs i).cells
theorem ans_span {m : Mem} {p : Nat} {t : Tr} (_hp : own m p = .some t.row) {i : Nat} (hi : 1 ≤ i ∧ i ≤ 8) : Ans Tryz.prog 102 [.ptr p 0, .int .i64 i] m fun x m' => (∃ cap s, x = .sl p (8 * (i - 1) * 33) 8 cap s) ∧ m' = m := by
 refine ans_ret mixed ok102 ?_
 simp -implicitDefEqProofs (disch := (first | omega | (simp only [lq4] <;> omega) | fail)) only [admQ, lq4, aFill, AK.cls, implies_true, if_true, if_false, seval, -List.reduceReplicate, c102, r102]
 exact ⟨64 - (i - 1) * 8, 0, by rw [show (i - 1) * 8 * 33 = 8 * (i - 1) * 33 by omega, show i * 8 - (i - 1) * 8 = 8 by omega]⟩
theorem span_sl {m : Mem} {p : Nat} {t : Tr} (hp : own m p = .some t.row) {i : Nat} (hi : 1 ≤ i ∧ i ≤ 8) : SlR m p (8 * (i - 1) * 33) 8 fun j => t.b (8 * (i - 1) + j) :=
 ⟨_, rowOf_own hp, by rw [t.row_len]; omega, fun j hj => by rw [← t.b_part (by omega), Nat.add_mul]⟩
def Tr.node (t : Tr) (k : Int) : Nd := if 0 ≤ k ∧ k ≤ 8 then t.n k.toNat else Nd.none
theorem Tr.node_nat (t : Tr) {k : Nat} (h : k ≤ 8) : t.node (k : Int) = t.n k := by rw [Tr.node, if_pos (by omega), Int.toNat_natCast]
theorem Tr.node_out (t : Tr) {k : Int} (h : ¬ (0 ≤ k ∧ k ≤ 8)) : t.node k = Nd.none := by rw [Tr.node, if_neg h]
def Tr.nodeR (t : Tr) (k : Int) : Rf := if (t.node k).st = 1 then (t.node k).ref else Rf.zero
def Tr.nodeB (t : Tr) (k : Int) : Bool := decide ((t.node k).st = 1)
theorem Tr.node_lt {t : Tr} {k : Int} (h : (t.node k).st = 1) : 0 ≤ k ∧ k ≤ 8 := Classical.byContradiction fun h' => by rw [t.node_out h'] at h; cases h
theorem ans_node {m : Mem} {p : Nat} {t : Tr} (hp : own m p = .some t.row) (k : Int) : Ans Tryz.prog 21 [.ptr p 0, .int .i64 k] m fun x m' => x = .tup [.agg (t.nodeR k).cells, .bool (t.nodeB k)] ∧ Kept [] m m' := by
 refine ans_ret mixed ok21 ?_
 simp -implicitDefEqProofs (disch := (first | omega | (simp only [lq4] <;> omega) | fail)) only [admQ, lq4, aFill, AK.cls, implies_true, if_true, if_false, seval, -List.reduceReplicate, c21, r21, rf_zero]
 refine (ans_within k 0 8 _).mono ?_
 rintro _ M ⟨rfl, rfl⟩
 have hp' := own_app hp [.row Rf.zero.cells false]
 by_cases h : 0 ≤ k ∧ k ≤ 8
 ·obtain ⟨k, rfl⟩ := Int.eq_ofNat_of_zero_le h.1
  have hk : k < 9 := by omega
  have e := t.n_st hk
  have e2 := t.n_ref hk
  rw [Tr.nodeR, Tr.nodeB, t.node_nat (by omega)]
  by_cases hs : (t.n k).st = 1
  ·rw [if_pos hs, decide_eq_true hs]
   simp -implicitDefEqProofs (disch := (first | omega | (simp only [lq4] <;> omega) | fail)) only [admQ, lq4, aFill, AK.cls, implies_true, if_true, if_false, seval, -List.reduceReplicate, dec_t h, rowOf_own hp', e, e2, hs, beq_self_eq_true, rf_zero, splice_rf, take_rf]
   exact .app _ _ _
  ·rw [if_neg hs, decide_eq_false hs]
   simp -implicitDefEqProofs (disch := (first | omega | (simp only [lq4] <;> omega) | fail)) only [admQ, lq4, aFill, AK.cls, implies_true, if_true, if_false, seval, -List.reduceReplicate, dec_t h, rowOf_own hp', e, beq_eq_false_iff_ne.mpr hs, rf_zero, splice_rf, take_rf]
   exact .app _ _ _
 ·rw [Tr.nodeR, Tr.nodeB, t.node_out h]
  simp -implicitDefEqProofs (disch := (first | omega | (simp only [lq4] <;> omega) | fail)) only [admQ, lq4, aFill, AK.cls, implies_true, if_true, if_false, seval, -List.reduceReplicate, dec_f h, rf_zero, splice_rf, take_rf]
  exact ⟨rfl, .app _ _ _⟩
end Go.Proofs.YtehnkcnjmfbjpaaGreat
end
section
namespace Go.Proofs.YtehnkcnjmfbjpaaGreat
open Go Go.Adm
set_option linter.unusedSimpArgs false
set_option maxRecDepth 100000
set_option maxHeartbeats 1000000
end Go.Proofs.YtehnkcnjmfbjpaaGreat
end
section
namespace Go.Proofs.YtehnkcnjmfbjpaaGreat
open Go Go.Adm
set_option linter.unusedSimpArgs false
set_option maxRecDepth 100000
set_option maxHeartbeats 1000000
def liveB (l : List Rf) : List Rf := l.filter fun r => !(r == Rf.zero)
def goneN (n : Nd) : List Rf := if n.st = 1 ∧ 0 < n.ref.at_ then [n.ref] else []
def liveN (l : List Nd) : List Rf := l.flatMap goneN
def Tr.refs (t : Tr) : List Rf := liveB t.bl ++ liveN t.nd
def Tr.mapped (t : Tr) : Nat := (liveB t.bl).length
theorem Tr.bl_row (t : Tr) : t.row.take 2112 = flatOf Rf.cells t.bl := by rw [Tr.row, ← t.bl_len, List.take_left]
theorem Tr.nd_row (t : Tr) : (t.row.drop 2112).take 306 = flatOf Nd.cells t.nd := by rw [Tr.row, ← t.bl_len, List.drop_left, ← t.nd_len, List.take_length]
theorem Tr.bl_at (t : Tr) {i : Nat} (h : i < 64) : ((flatOf Rf.cells t.bl).drop (i * 33)).take 33 = (t.b i).cells := by
 have hi : i < t.bl.length := by rw [t.hb]; exact h
 rw [flatOf_get Rf.cells_len t.bl i hi]
 have := t.b_get h
 rw [List.getElem?_eq_getElem hi, Option.some.injEq] at this
 rw [this]
theorem Tr.nd_at (t : Tr) {i : Nat} (h : i < 9) : ((flatOf Nd.cells t.nd).drop (i * 34)).take 34 = (t.n i).cells := by
 have hi : i < t.nd.length := by rw [t.hn]; exact h
 rw [flatOf_get Nd.cells_len t.nd i hi]
 have := t.n_get h
 rw [List.getElem?_eq_getElem hi, Option.some.injEq] at this
 rw [this]
theorem Tr.bl_take (t : Tr) {i : Nat} (h : i < 64) : t.bl.take (i + 1) = t.bl.take i ++ [t.b i] := by
 rw [List.take_add_one, t.b_get h]; rfl
theorem Tr.nd_take (t : Tr) {i : Nat} (h : i < 9) : t.nd.take (i + 1) = t.nd.take i ++ [t.n i] := by
 rw [List.take_add_one, t.n_get h]; rfl
theorem liveB_one (l : List Rf) (r : Rf) : liveB (l ++ [r]) = liveB l ++ if r = Rf.zero then [] else [r] := by
 rw [liveB, List.filter_append]
 by_cases h : r = Rf.zero
 ·simp [liveB, h]
 ·simp [liveB, h]
theorem liveN_one (l : List Nd) (n : Nd) : liveN (l ++ [n]) = liveN l ++ goneN n := by simp [liveN]
theorem liveB_len (l : List Rf) : (liveB l).length ≤ l.length := List.length_filter_le _ _
def lq5 := And.intro @lenB (And.intro @Tr.row_len (And.intro @Rf.cells_len (And.intro @Nd.cells_len (And.intro @Tr.bl_len (@Tr.nd_len)))))
theorem ans_mapped {m : Mem} {p : Nat} {t : Tr} (hp : own m p = .some t.row) : Ans Tryz.prog 64 [.ptr p 0] m fun x m' => x = .int .i64 t.mapped ∧ Kept [] m m' := by
 refine ans_ret mixed ok64 ?_
 have e := t.bl_row
 simp -implicitDefEqProofs (disch := (first | omega | (simp only [lq5] <;> omega) | fail)) only [admQ, lq5, aFill, AK.cls, implies_true, if_true, if_false, seval, -List.reduceReplicate, c64, r64, rowOf_own hp, e]
 refine LoopW.on (fun s : Nat × Nat => [(3, .int .i64 s.2), (9, .agg (flatOf Rf.cells t.bl)), (10, .int .i64 s.1)]) (fun s => 64 - s.1)
  (fun s m' => s.1 ≤ 64 ∧ Kept [] m m' ∧ s.2 = (liveB (t.bl.take s.1)).length) ?_ (0, 0) _ _ rfl ⟨by omega, .refl _ _, rfl⟩
 rintro ⟨j, c⟩ m' X ⟨hj, hk, hc⟩ hX
 dsimp only at hj hk hc hX ⊢
 by_cases hlt : j < 64
 ·have e1 := t.bl_at hlt
  have hll := liveB_len (t.bl.take j)
  have hl2 : (t.bl.take j).length ≤ 64 := by simp; omega
  by_cases hz : t.b j = Rf.zero
  ·have ez := aEq_rf' Rf.zero Rf.zero
   simp -implicitDefEqProofs (disch := (first | omega | (simp only [lq5] <;> omega) | fail)) only [admQ, lq5, aFill, AK.cls, implies_true, if_true, if_false, seval, -List.reduceReplicate, e1, rf_zero, splice_rf, take_rf, hz, ez, beq_self_eq_true]
   exact hX (j + 1, c) _ _ rfl (by simp; omega) ⟨by simp; omega, hk.trans (.app _ _ _), by rw [t.bl_take hlt, liveB_one, if_pos hz, List.append_nil]; exact hc⟩
  ·have ez := aEq_rf' (t.b j) Rf.zero
   have hb : (t.b j == Rf.zero) = false := beq_eq_false_iff_ne.mpr hz
   simp -implicitDefEqProofs (disch := (first | omega | (simp only [lq5] <;> omega) | fail)) only [admQ, lq5, aFill, AK.cls, implies_true, if_true, if_false, seval, -List.reduceReplicate, e1, rf_zero, splice_rf, take_rf, ez, hb]
   exact hX (j + 1, c + 1) _ _ rfl (by simp; omega) ⟨by simp; omega, hk.trans (.app _ _ _), by rw [t.bl_take hlt, liveB_one, if_neg hz, List.length_append, List.length_singleton]; exact congrArg (· + 1) hc⟩
 ·obtain rfl : j = 64 := by omega
  rw [List.take_of_length_le (by rw [t.hb]; omega)] at hc
  simp -implicitDefEqProofs (disch := (first | omega | (simp only [lq5] <;> omega) | fail)) only [admQ, lq5, aFill, AK.cls, implies_true, if_true, if_false, seval, -List.reduceReplicate]
  exact ⟨by rw [hc]; rfl, hk⟩
theorem ans_bare {m : Mem} {p : Nat} {t : Tr} (hp : own m p = .some t.row) : Ans Tryz.prog 100 [.ptr p 0] m fun x m' => x = .bool (decide (t.mapped = 0)) ∧ Kept [] m m' := by
 refine ans_ret mixed ok100 ?_
 simp -implicitDefEqProofs (disch := (first | omega | (simp only [lq5] <;> omega) | fail)) only [admQ, lq5, aFill, AK.cls, implies_true, if_true, if_false, seval, -List.reduceReplicate, c100, r100]
 refine (ans_mapped hp).mono ?_
 rintro _ M ⟨rfl, hk⟩
 simp -implicitDefEqProofs (disch := (first | omega | (simp only [lq5] <;> omega) | fail)) only [admQ, lq5, aFill, AK.cls, implies_true, if_true, if_false, seval, -List.reduceReplicate]
 refine ⟨?_, hk⟩
 by_cases h : t.mapped = 0
 ·rw [h]; rfl
 ·rw [decide_eq_false h, beq_eq_false_iff_ne.mpr (by omega)]
theorem liveN_len (l : List Nd) : (liveN l).length ≤ l.length := by
 induction l with
 | nil => simp [liveN]
 | cons n l ih =>
  have : (goneN n).length ≤ 1 := by unfold goneN; split <;> simp
  simp only [liveN, List.flatMap_cons, List.length_append, List.length_cons] at *
  omega
theorem ans_refs {m : Mem} {p : Nat} {t : Tr} (hp : own m p = .some t.row) : Ans Tryz.prog 58 [.ptr p 0] m fun x m' => RfL m.length m' x t.refs ∧ Kept [] m m' := by
 refine ans_ret mixed ok58 ?_
 have e := t.bl_row
 have e' := t.nd_row
 simp -implicitDefEqProofs (disch := (first | omega | (simp only [lq5] <;> omega) | fail)) only [admQ, lq5, aFill, AK.cls, implies_true, if_true, if_false, seval, -List.reduceReplicate, c58, r58, rowOf_own hp, e]
 refine LoopW.on (fun s : Nat × AV => [(0, .ptr p 0), (3, s.2), (11, .agg (flatOf Rf.cells t.bl)), (12, .int .i64 s.1)]) (fun s => 64 - s.1)
  (fun s m' => s.1 ≤ 64 ∧ Kept [] m m' ∧ RfL m.length m' s.2 (liveB (t.bl.take s.1))) ?_ (0, .nils) _ _ rfl ⟨by omega, .refl _ _, .nils ..⟩
 rintro ⟨j, x⟩ m' X ⟨hj, hk, hx⟩ hX
 dsimp only at hj hk hx hX ⊢
 have hl0 := hk.len
 by_cases hlt : j < 64
 ·have e1 := t.bl_at hlt
  have hll := liveB_len (t.bl.take j)
  have hl2 : (t.bl.take j).length ≤ 64 := by simp; omega
  by_cases hz : t.b j = Rf.zero
  ·have ez := aEq_rf' Rf.zero Rf.zero
   simp -implicitDefEqProofs (disch := (first | omega | (simp only [lq5] <;> omega) | fail)) only [admQ, lq5, aFill, AK.cls, implies_true, if_true, if_false, seval, -List.reduceReplicate, e1, rf_zero, splice_rf, take_rf, hz, ez, beq_self_eq_true]
   exact hX (j + 1, x) _ _ rfl (by simp; omega) ⟨by simp; omega, hk.trans (.app _ _ _), by rw [t.bl_take hlt, liveB_one, if_pos hz, List.append_nil]; exact hx.kept0 (.app _ _ _)⟩
  ·have ez := aEq_rf' (t.b j) Rf.zero
   have hb : (t.b j == Rf.zero) = false := beq_eq_false_iff_ne.mpr hz
   obtain ⟨x', m2, ha, hg2, hk2, hf2, hb2⟩ := (hx.kept0 (.app [] m' [.row (t.b j).cells false])).push (bytes := 40) Rf.cells_len (by omega) (t.b j) (by omega) (by simp; omega)
   rw [List.length_append, List.append_assoc] at ha
   simp only [List.length_singleton, List.singleton_append] at ha
   simp -implicitDefEqProofs (disch := (first | omega | (simp only [lq5] <;> omega) | fail)) only [admQ, lq5, aFill, AK.cls, implies_true, if_true, if_false, seval, -List.reduceReplicate, e1, rf_zero, splice_rf, take_rf, ez, hb, ha]
   exact hX (j + 1, x') _ _ rfl (by simp; omega) ⟨by simp; omega, hf2 _ _ (hk.trans (.app _ _ _)) (Nat.le_refl _), by rw [t.bl_take hlt, liveB_one, if_neg hz]; exact hg2⟩
 ·obtain rfl : j = 64 := by omega
  rw [List.take_of_length_le (by rw [t.hb]; omega)] at hx
  have hp' := hk.own0 hp
  have hll := liveB_len t.bl
  rw [t.hb] at hll
  clear hX
  simp -implicitDefEqProofs (disch := (first | omega | (simp only [lq5] <;> omega) | fail)) only [admQ, lq5, aFill, AK.cls, implies_true, if_true, if_false, seval, -List.reduceReplicate, rowOf_own hp', e']
  refine LoopW.on (fun s : Nat × AV => [(3, s.2), (26, .agg (flatOf Nd.cells t.nd)), (27, .int .i64 s.1)]) (fun s => 9 - s.1)
   (fun s m' => s.1 ≤ 9 ∧ Kept [] m m' ∧ RfL m.length m' s.2 (liveB t.bl ++ liveN (t.nd.take s.1))) ?_ (0, x) _ _ rfl ⟨by omega, hk, by simpa [liveN] using hx⟩
  clear hk hx hl0 hp' x
  rintro ⟨j, x⟩ m1 X ⟨hj, hk, hx⟩ hX
  dsimp only at hj hk hx hX ⊢
  have hl0 := hk.len
  by_cases hlt : j < 9
  ·have e1 := t.nd_at hlt
   have hln := liveN_len (t.nd.take j)
   have hl2 : (t.nd.take j).length ≤ 9 := by simp; omega
   by_cases hc : (t.n j).st = 1 ∧ 0 < (t.n j).ref.at_
   ·have hg : goneN (t.n j) = [(t.n j).ref] := if_pos hc
    obtain ⟨x', m2, ha, hg2, hk2, hf2, hb2⟩ := (hx.kept0 (.app [] m1 [.row (t.n j).cells false])).push (bytes := 40) Rf.cells_len (by omega) (t.n j).ref (by simp only [List.length_append]; omega) (by simp; omega)
    rw [List.length_append, List.append_assoc] at ha
    simp only [List.length_singleton, List.singleton_append] at ha
    simp -implicitDefEqProofs (disch := (first | omega | (simp only [lq5] <;> omega) | fail)) only [admQ, lq5, aFill, AK.cls, implies_true, if_true, if_false, seval, -List.reduceReplicate, e1, rf_zero, nd_zero, nd_zero2, splice_nd, splice_rf, take_nd, take_rf, drop_nd, nd_st, nd_at, hc.1, beq_self_eq_true, dec_t, dec_f, ha]
    exact hX (j + 1, x') _ _ rfl (by simp; omega) ⟨by simp; omega, hf2 _ _ (hk.trans (.app _ _ _)) (Nat.le_refl _), by rw [t.nd_take hlt, liveN_one, ← List.append_assoc, hg]; exact hg2⟩
   ·have hg : goneN (t.n j) = [] := if_neg hc
    have hfin : RfL m.length (m1 ++ [.row (t.n j).cells false]) x (liveB t.bl ++ liveN (t.nd.take (j + 1))) := by
     rw [t.nd_take hlt, liveN_one, hg, List.append_nil]; exact hx.kept0 (.app _ _ _)
    by_cases hc1 : (t.n j).st = 1
    ·have hc2 : ¬ 0 < (t.n j).ref.at_ := fun h => hc ⟨hc1, h⟩
     simp -implicitDefEqProofs (disch := (first | omega | (simp only [lq5] <;> omega) | fail)) only [admQ, lq5, aFill, AK.cls, implies_true, if_true, if_false, seval, -List.reduceReplicate, e1, rf_zero, nd_zero, nd_zero2, splice_nd, take_nd, nd_st, nd_at, hc1, beq_self_eq_true, dec_t, dec_f]
     exact hX (j + 1, x) _ _ rfl (by simp; omega) ⟨by simp; omega, hk.trans (.app _ _ _), hfin⟩
    ·simp -implicitDefEqProofs (disch := (first | omega | (simp only [lq5] <;> omega) | fail)) only [admQ, lq5, aFill, AK.cls, implies_true, if_true, if_false, seval, -List.reduceReplicate, e1, rf_zero, nd_zero, nd_zero2, splice_nd, take_nd, nd_st, nd_at, beq_eq_false_iff_ne.mpr hc1]
     exact hX (j + 1, x) _ _ rfl (by simp; omega) ⟨by simp; omega, hk.trans (.app _ _ _), hfin⟩
  ·obtain rfl : j = 9 := by omega
   rw [List.take_of_length_le (by rw [t.hn]; omega)] at hx
   simp -implicitDefEqProofs (disch := (first | omega | (simp only [lq5] <;> omega) | fail)) only [admQ, lq5, aFill, AK.cls, implies_true, if_true, if_false, seval, -List.reduceReplicate]
   exact ⟨hx, hk⟩
end Go.Proofs.YtehnkcnjmfbjpaaGreat
end
section
namespace Go.Proofs.YtehnkcnjmfbjpaaGreat
open Go Go.Adm
set_option linter.unusedSimpArgs false
set_option maxRecDepth 100000
set_option maxHeartbeats 1000000
def natC (n : Nat) : List AV := [.int .i64 (n : Int)]
theorem natC_len (n : Nat) : (natC n).length = 1 := rfl
abbrev NatL := GrL natC 1
theorem flat_nats (l : List Nat) : flatOf natC l = nats l := by rw [flatOf, nats, List.map_eq_flatMap]; rfl
def dOrd : List Nat := [1, 2, 3, 4, 5, 6, 7, 8, 0]
theorem dOrd_take {j : Nat} (h1 : 1 ≤ j) (h2 : j ≤ 9) : dOrd.take j = dOrd.take (j - 1) ++ [j % 9] := by
 have : j = 1 ∨ j = 2 ∨ j = 3 ∨ j = 4 ∨ j = 5 ∨ j = 6 ∨ j = 7 ∨ j = 8 ∨ j = 9 := by omega
 rcases this with h | h | h | h | h | h | h | h | h <;> subst h <;> rfl
def Tr.dirtyIn (t : Tr) (l : List Nat) : List Nat := l.filter fun k => decide ((t.n k).st = 2)
def Tr.dirtyL (t : Tr) : List Nat := t.dirtyIn dOrd
theorem Tr.dirtyIn_one (t : Tr) (l : List Nat) (k : Nat) : t.dirtyIn (l ++ [k]) = t.dirtyIn l ++ if (t.n k).st = 2 then [k] else [] := by
 rw [Tr.dirtyIn, List.filter_append]
 by_cases h : (t.n k).st = 2 <;> simp [Tr.dirtyIn, h]
theorem Tr.dirtyIn_len (t : Tr) (l : List Nat) : (t.dirtyIn l).length ≤ l.length := List.length_filter_le _ _
theorem Tr.dirty_lt {t : Tr} {k : Nat} (h : k ∈ t.dirtyL) : k < 9 := by
 have := (List.mem_filter.mp h).1
 simp [dOrd] at this; omega
theorem ans_dirty {m : Mem} {p : Nat} {t : Tr} (hp : own m p = some t.row) : Ans Tryz.prog 34 [.ptr p 0] m fun x m' => NatL m.length m' x t.dirtyL ∧ Kept [] m m' := by
 refine ans_ret mixed ok34 ?_
 simp -implicitDefEqProofs (disch := (first | omega | (simp only [lq5] <;> omega) | fail)) only [admQ, lq5, aFill, AK.cls, implies_true, if_true, if_false, seval, -List.reduceReplicate, c34, r34]
 refine LoopW.on (fun s : Nat × AV => [(0, .ptr p 0), (3, s.2), (4, .int .i64 s.1)]) (fun s => 10 - s.1)
  (fun s m' => (1 ≤ s.1 ∧ s.1 ≤ 10) ∧ Kept [] m m' ∧ NatL m.length m' s.2 (t.dirtyIn (dOrd.take (s.1 - 1)))) ?_ (1, .nils) _ _ rfl ⟨by omega, .refl _ _, .nils ..⟩
 rintro ⟨j, x⟩ m' X ⟨hj, hk, hx⟩ hX
 dsimp only at hj hk hx hX ⊢
 have hl0 := hk.len
 have hp' := hk.own0 hp
 by_cases hlt : j ≤ 9
 ·have h9 : j % 9 < 9 := by omega
  have e1 := t.n_st h9
  have hll := t.dirtyIn_len (dOrd.take (j - 1))
  have hl2 : (dOrd.take (j - 1)).length ≤ 9 := by simp [dOrd]; omega
  by_cases hs : (t.n (j % 9)).st = 2
  ·obtain ⟨x', m2, ha, hg2, hk2, hf2, hb2⟩ := hx.push (bytes := 8) natC_len (by omega) (j % 9) (by omega) (by omega)
   simp only [natC] at ha
   simp -implicitDefEqProofs (disch := (first | omega | (simp only [lq5] <;> omega) | fail)) only [admQ, lq5, aFill, AK.cls, implies_true, if_true, if_false, seval, -List.reduceReplicate, rowOf_own hp', e1, hs, beq_self_eq_true, ha]
   exact hX (j + 1, x') _ _ rfl (by simp; omega) ⟨by simp; omega, hf2 _ _ hk (Nat.le_refl _), by rw [show j + 1 - 1 = j from rfl, dOrd_take hj.1 hlt, t.dirtyIn_one, if_pos hs]; exact hg2⟩
  ·simp -implicitDefEqProofs (disch := (first | omega | (simp only [lq5] <;> omega) | fail)) only [admQ, lq5, aFill, AK.cls, implies_true, if_true, if_false, seval, -List.reduceReplicate, rowOf_own hp', e1, beq_eq_false_iff_ne.mpr hs]
   exact hX (j + 1, x) _ _ rfl (by simp; omega) ⟨by simp; omega, hk, by rw [show j + 1 - 1 = j from rfl, dOrd_take hj.1 hlt, t.dirtyIn_one, if_neg hs, List.append_nil]; exact hx⟩
 ·obtain rfl : j = 10 := by omega
  simp -implicitDefEqProofs (disch := (first | omega | (simp only [lq5] <;> omega) | fail)) only [admQ, lq5, aFill, AK.cls, implies_true, if_true, if_false, seval, -List.reduceReplicate]
  exact ⟨hx, hk⟩
theorem ans_slind {m : Mem} {x : AV} {l : List Nat} {m0 : Nat} (h : NatL m0 m x l) (hn : l.length < 1000) (v : Int) :
  Ans Tryz.prog 115 [x, .int .i64 v] m fun y m' => (∃ w : Int, y = .int .i64 w ∧ (0 ≤ w ↔ ∃ i, i ∈ l ∧ (i : Int) = v)) ∧ m' = m := by
 refine ans_ret mixed ok115 ?_
 have hln := h.len
 simp -implicitDefEqProofs (disch := (first | omega | (simp only [lq5] <;> omega) | fail)) only [admQ, lq5, aFill, AK.cls, implies_true, if_true, if_false, seval, -List.reduceReplicate, c115, r115, hln]
 refine LoopW.on (fun j : Nat => [(0, x), (1, .int .i64 v), (7, .int .i64 l.length), (8, .int .i64 j)]) (fun j => l.length - j)
  (fun j m' => j ≤ l.length ∧ m' = m ∧ ∀ i, i ∈ l.take j → ¬ (i : Int) = v) ?_ 0 _ _ rfl ⟨by omega, rfl, fun i hi => by simp at hi⟩
 rintro j m' X ⟨hj, rfl, hz⟩ hX
 by_cases hlt : j < l.length
 ·obtain ⟨b, s, rfl, -, ho, -⟩ := h.sl_at hlt
  rw [flat_nats] at ho
  have e := nats_get (List.getElem?_eq_getElem hlt)
  by_cases hr : v = ((l[j] : Nat) : Int)
  ·simp -implicitDefEqProofs (disch := (first | omega | (simp only [lq5] <;> omega) | fail)) only [admQ, lq5, aFill, AK.cls, implies_true, if_true, if_false, seval, -List.reduceReplicate, rowOf_own ho, e, hr, beq_self_eq_true]
   exact ⟨_, rfl, ⟨fun _ => ⟨_, List.getElem_mem hlt, rfl⟩, fun _ => by omega⟩⟩
  ·simp -implicitDefEqProofs (disch := (first | omega | (simp only [lq5] <;> omega) | fail)) only [admQ, lq5, aFill, AK.cls, implies_true, if_true, if_false, seval, -List.reduceReplicate, rowOf_own ho, e, beq_eq_false_iff_ne.mpr hr]
   exact hX (j + 1) _ _ rfl (by omega) ⟨by omega, rfl, fun i hi => by
    rw [List.take_add_one, List.getElem?_eq_getElem hlt] at hi
    rcases List.mem_append.mp hi with hi | hi
    ·exact hz i hi
    ·simp at hi; rw [hi]; exact fun h => hr h.symm⟩
 ·obtain rfl : j = l.length := by omega
  rw [List.take_length] at hz
  simp -implicitDefEqProofs (disch := (first | omega | (simp only [lq5] <;> omega) | fail)) only [admQ, lq5, aFill, AK.cls, implies_true, if_true, if_false, seval, -List.reduceReplicate]
  exact ⟨_, rfl, by simp; exact hz⟩
theorem ans_slcon {m : Mem} {x : AV} {l : List Nat} {m0 : Nat} (h : NatL m0 m x l) (hn : l.length < 1000) (v : Int) :
  Ans Tryz.prog 99 [x, .int .i64 v] m fun y m' => (∃ b : Bool, y = .bool b ∧ (b = true ↔ ∃ i, i ∈ l ∧ (i : Int) = v)) ∧ m' = m := by
 refine ans_ret mixed ok99 ?_
 simp -implicitDefEqProofs (disch := (first | omega | (simp only [lq5] <;> omega) | fail)) only [admQ, lq5, aFill, AK.cls, implies_true, if_true, if_false, seval, -List.reduceReplicate, c99, r99]
 refine (ans_slind h hn v).mono ?_
 rintro _ _ ⟨⟨w, rfl, hv⟩, rfl⟩
 simp -implicitDefEqProofs (disch := (first | omega | (simp only [lq5] <;> omega) | fail)) only [admQ, lq5, aFill, AK.cls, implies_true, if_true, if_false, seval, -List.reduceReplicate]
 exact ⟨_, rfl, by simp only [decide_eq_true_eq, ge_iff_le]; exact hv⟩
def Tr.isDirty (t : Tr) (k : Int) : Prop := 0 ≤ k ∧ k ≤ 8 ∧ (t.n k.toNat).st = 2
instance (t : Tr) (k : Int) : Decidable (t.isDirty k) := inferInstanceAs (Decidable (_ ∧ _))
theorem Tr.isDirty_mem (t : Tr) (k : Int) : (∃ i, i ∈ t.dirtyL ∧ (i : Int) = k) ↔ t.isDirty k := by
 constructor
 ·rintro ⟨i, hi, rfl⟩
  have := Tr.dirty_lt hi
  refine ⟨by omega, by omega, ?_⟩
  have := (List.mem_filter.mp hi).2
  simpa using this
 ·rintro ⟨h1, h2, h3⟩
  refine ⟨k.toNat, List.mem_filter.mpr ⟨?_, by simpa using h3⟩, by omega⟩
  have : k.toNat = 0 ∨ k.toNat = 1 ∨ k.toNat = 2 ∨ k.toNat = 3 ∨ k.toNat = 4 ∨ k.toNat = 5 ∨ k.toNat = 6 ∨ k.toNat = 7 ∨ k.toNat = 8 := by omega
  simp only [dOrd, List.mem_cons, List.not_mem_nil, or_false]; omega
def Tr.savedE (t : Tr) (k : Int) (r : Rf) : Int :=
 if ¬ t.isDirty k ∨ k = 0 ∧ 1 < t.dirtyL.length then 16
 else if k = 0 ∧ t.mapped = 0 then (if r = Rf.zero then 0 else 7)
 else if r.at_ < 1 then 7 else 0
def Tr.savedT (t : Tr) (k : Int) (r : Rf) : Tr := if t.savedE k r = 0 then t.setN k.toNat ⟨1, r⟩ else t
def savTail : ACode := tlC (tlC (tlC c65))
theorem savCode : c65 = .seq (hdC c65) (.seq (hdC (tlC c65)) (.seq (hdC (tlC (tlC c65))) savTail)) := rfl
theorem nd_one : splice Nd.none.cells 0 [.int .i64 1] = (Nd.mk 1 Rf.zero).cells := rfl
theorem nd_built (r : Rf) : splice (Nd.mk 1 Rf.zero).cells 1 r.cells = (Nd.mk 1 r).cells := by
 simp only [splice, Nd.cells, List.take_succ_cons, List.take_zero, List.singleton_append, List.cons.injEq, true_and, List.cons_append]
 simp [Rf.cells_len, List.drop_of_length_le]
theorem sav_tail {m M : Mem} {p q : Nat} {t : Tr} {k : Nat} {r : Rf} (hkM : Kept [p] m M) (hp : own M p = some t.row) (hq : own M q = some r.cells) (hk : k < 9) {e : AFr} (he : e = [(34, .bool false)] ∨ e = [(33, .bool false)]) :
  wpA Tryz.prog savTail ((0, .ptr p 0) :: (1, .int .i64 k) :: (5, .ptr q 0) :: e) M (retQ [.tmp 6] fun x' m' => x' = .int .i64 0 ∧ Kept [p] m m' ∧ own m' p = some (t.setN k ⟨1, r⟩).row) := by
 rcases he with rfl | rfl
 all_goals
  simp only [savTail, tlC, c65]
  have hs := t.setN_row hk ⟨1, r⟩
  simp -implicitDefEqProofs (disch := (first | omega | (simp only [lq5] <;> omega) | fail)) only [admQ, lq5, aFill, AK.cls, implies_true, if_true, if_false, seval, -List.reduceReplicate, rowOf_own hq, hp, take_rf, hs, nd_zero, rf_zero, nd_zero2, nd_one, nd_built]
  exact ⟨hkM.trans (.set1 _ _ _), own_set (own_lt hp) _⟩
theorem ans_saved {m : Mem} {p : Nat} {t : Tr} (hp : own m p = some t.row) (k : Int) (r : Rf) :
  Ans Tryz.prog 65 [.ptr p 0, .int .i64 k, .agg r.cells] m fun x m' => x = .int .i64 (t.savedE k r) ∧ Kept [p] m m' ∧ own m' p = some (t.savedT k r).row := by
 refine ans_ret mixed ok65 ?_
 rw [savCode]
 simp -implicitDefEqProofs (disch := (first | omega | (simp only [lq5] <;> omega) | fail)) only [admQ, lq5, aFill, AK.cls, implies_true, if_true, if_false, seval, -List.reduceReplicate, hdC, tlC, c65, r65]
 refine (ans_dirty (own_app hp _)).mono ?_
 rintro x M ⟨hx, hk⟩
 have hq : own M m.length = some r.cells := hk.own0 (by rw [own_app_at0]; rfl)
 have hpM := hk.own0 (own_app hp _)
 have hkM : Kept [p] m M := ((Kept.app [] m _).trans hk).any
 have hlM := hk.len
 rw [List.length_append, List.length_singleton] at hlM
 have hdl : t.dirtyL.length ≤ 9 := t.dirtyIn_len dOrd
 have hxl := hx.len
 simp -implicitDefEqProofs (disch := (first | omega | (simp only [lq5] <;> omega) | fail)) only [admQ, lq5, aFill, AK.cls, implies_true, if_true, if_false, seval, -List.reduceReplicate]
 refine (ans_slcon hx (by omega) k).mono ?_
 rintro _ _ ⟨⟨b, rfl, hb⟩, rfl⟩
 rename_i M
 rw [t.isDirty_mem] at hb
 by_cases hd : t.isDirty k
 ·obtain rfl : b = true := hb.mpr hd
  obtain ⟨k, rfl⟩ := Int.eq_ofNat_of_zero_le hd.1
  have hk9 : k < 9 := by have := hd.2.1; omega
  by_cases h0 : k = 0
  ·subst h0
   by_cases h1 : 1 < t.dirtyL.length
   ·have he : t.savedE ((0 : Nat) : Int) r = 16 := if_pos (.inr ⟨rfl, h1⟩)
    rw [Tr.savedT, he, if_neg (by decide)]
    simp -implicitDefEqProofs (disch := (first | omega | (simp only [lq5] <;> omega) | fail)) only [admQ, lq5, aFill, AK.cls, implies_true, if_true, if_false, seval, -List.reduceReplicate, hxl, dec_t, dec_f]
    exact ⟨hkM, hpM⟩
   ·have he : t.savedE ((0 : Nat) : Int) r = if t.mapped = 0 then (if r = Rf.zero then 0 else 7) else if r.at_ < 1 then 7 else 0 := by
     rw [Tr.savedE, if_neg (by rintro (h | h); exact h hd; exact h1 h.2)]
     simp
    simp -implicitDefEqProofs (disch := (first | omega | (simp only [lq5] <;> omega) | fail)) only [admQ, lq5, aFill, AK.cls, implies_true, if_true, if_false, seval, -List.reduceReplicate, hxl, dec_t, dec_f]
    refine (ans_bare hpM).mono ?_
    rintro _ M1 ⟨rfl, hk1⟩
    have hq1 := hk1.own0 hq
    have hp1 := hk1.own0 hpM
    have hk1' := hkM.trans hk1.any
    by_cases hm : t.mapped = 0
    ·rw [if_pos hm] at he
     have ez := aEq_rf' r Rf.zero
     have ez0 := aEq_rf' Rf.zero Rf.zero
     by_cases hr : r = Rf.zero
     ·rw [if_pos hr] at he
      rw [Tr.savedT, show t.savedE 0 r = 0 from he, if_pos rfl]
      simp -implicitDefEqProofs (disch := (first | omega | (simp only [lq5] <;> omega) | fail)) only [admQ, lq5, aFill, AK.cls, implies_true, if_true, if_false, seval, -List.reduceReplicate, dec_t hm, rowOf_own hq1, take_rf, rf_zero, ez0, hr, beq_self_eq_true]
      rw [hr] at hq1
      exact sav_tail hk1' hp1 hq1 hk9 (.inr rfl)
     ·rw [if_neg hr] at he
      rw [Tr.savedT, show t.savedE 0 r = 7 from he, if_neg (by decide)]
      simp -implicitDefEqProofs (disch := (first | omega | (simp only [lq5] <;> omega) | fail)) only [admQ, lq5, aFill, AK.cls, implies_true, if_true, if_false, seval, -List.reduceReplicate, dec_t hm, rowOf_own hq1, take_rf, rf_zero, ez, beq_eq_false_iff_ne.mpr hr]
      exact ⟨hk1', hp1⟩
    ·rw [if_neg hm] at he
     by_cases h2 : r.at_ < 1
     ·rw [if_pos h2] at he
      rw [Tr.savedT, show t.savedE 0 r = 7 from he, if_neg (by decide)]
      simp -implicitDefEqProofs (disch := (first | omega | (simp only [lq5] <;> omega) | fail)) only [admQ, lq5, aFill, AK.cls, implies_true, if_true, if_false, seval, -List.reduceReplicate, dec_f hm, rowOf_own hq1, rf_at, dec_t, dec_f]
      exact ⟨hk1', hp1⟩
     ·rw [if_neg h2] at he
      rw [Tr.savedT, show t.savedE 0 r = 0 from he, if_pos rfl]
      simp -implicitDefEqProofs (disch := (first | omega | (simp only [lq5] <;> omega) | fail)) only [admQ, lq5, aFill, AK.cls, implies_true, if_true, if_false, seval, -List.reduceReplicate, dec_f hm, rowOf_own hq1, rf_at, dec_t, dec_f]
      exact sav_tail hk1' hp1 hq1 hk9 (.inl rfl)
  ·simp -implicitDefEqProofs (disch := (first | omega | (simp only [lq5] <;> omega) | fail)) only [admQ, lq5, aFill, AK.cls, implies_true, if_true, if_false, seval, -List.reduceReplicate, hxl, dec_t, dec_f, beq_eq_false_iff_ne.mpr (show ¬ ((k : Nat) : Int) = 0 by omega)]
   have he : t.savedE (k : Int) r = if r.at_ < 1 then 7 else 0 := by
    rw [Tr.savedE, if_neg (by rintro (h | h); exact h hd; omega), if_neg (by omega)]
   by_cases h2 : r.at_ < 1
   ·rw [if_pos h2] at he
    rw [Tr.savedT, he, if_neg (by decide)]
    simp -implicitDefEqProofs (disch := (first | omega | (simp only [lq5] <;> omega) | fail)) only [admQ, lq5, aFill, AK.cls, implies_true, if_true, if_false, seval, -List.reduceReplicate, rowOf_own hq, rf_at, dec_t, dec_f]
    exact ⟨hkM, hpM⟩
   ·rw [if_neg h2] at he
    rw [Tr.savedT, he, if_pos rfl, Int.toNat_natCast]
    simp -implicitDefEqProofs (disch := (first | omega | (simp only [lq5] <;> omega) | fail)) only [admQ, lq5, aFill, AK.cls, implies_true, if_true, if_false, seval, -List.reduceReplicate, rowOf_own hq, rf_at, dec_t, dec_f]
    exact sav_tail hkM hpM hq hk9 (.inl rfl)
 ·obtain rfl : b = false := by cases b with | false => rfl | true => exact absurd (hb.mp rfl) hd
  have he : t.savedE k r = 16 := if_pos (.inl hd)
  rw [Tr.savedT, he, if_neg (by decide)]
  simp -implicitDefEqProofs (disch := (first | omega | (simp only [lq5] <;> omega) | fail)) only [admQ, lq5, aFill, AK.cls, implies_true, if_true, if_false, seval, -List.reduceReplicate]
  exact ⟨hkM, hpM⟩
end Go.Proofs.YtehnkcnjmfbjpaaGreat
end
section
namespace Go.Proofs.YtehnkcnjmfbjpaaGreat
open Go Go.Adm
set_option linter.unusedSimpArgs false
set_option maxRecDepth 100000
set_option maxHeartbeats 1000000
def Tr.pageF (t : Tr) (k : Int) (i : Nat) : Rf :=
 if k = 0 then (if (t.n (i + 1)).st = 1 then (t.n (i + 1)).ref else Rf.zero)
 else if 1 ≤ k ∧ k ≤ 8 then t.b (8 * (k.toNat - 1) + i) else Rf.zero
def Tr.page (t : Tr) (k : Int) : List Rf := tab 8 (t.pageF k)
theorem tab_one {α : Type} (n : Nat) (f : Nat → α) : tab (n + 1) f = tab n f ++ [f n] := by simp [tab, List.range_succ]
theorem parts_flat {cells : List AV} {o : Nat} {rs : Nat → Rf} : ∀ n, o + n * 33 ≤ cells.length → (∀ i, i < n → (cells.drop (o + i * 33)).take 33 = (rs i).cells) → (cells.drop o).take (n * 33) = flatOf Rf.cells (tab n rs) := by
 intro n
 induction n with
 | zero => intro _ _; simp [tab, flatOf]
 | succ n ih =>
  intro h hp
  rw [Nat.add_mul, Nat.one_mul, List.take_add, ih (by omega) (fun i hi => hp i (by omega)), tab_one, flatOf_app, flatOf_one, List.drop_drop, ← hp n (by omega)]
theorem flat8_len (f : Nat → Rf) : (flatOf Rf.cells (tab 8 f)).length = 264 := by rw [flatOf_length Rf.cells_len, tab_len]
theorem flatU_len (f g : Nat → Rf) (i : Nat) : (flatOf Rf.cells (upTo 8 f g i)).length = 264 := flat8_len _
theorem copy_refs {m : Mem} {p q o cap cap' s s' : Nat} {rs : Nat → Rf} {c : List AV} (h : SlR m p o 8 rs) (hq : own m q = some c) (hc : c.length = 264) :
  aCopy 33 (.sl q 0 8 cap s) (.sl p o 8 cap' s') m = some (.int .i64 (8 : Nat), m.set q (.row (flatOf Rf.cells (tab 8 rs)) false)) := by
 obtain ⟨cells, h1, h2, h3⟩ := h
 have e := parts_flat 8 h2 h3
 have hs : splice c 0 (flatOf Rf.cells (tab 8 rs)) = flatOf Rf.cells (tab 8 rs) := by
  simp [splice, flat8_len, List.drop_of_length_le, hc]
 unfold aCopy
 simp only [lenA, Option.bind_some, show Nat.min 8 8 = 8 from rfl, if_neg (show ¬ (8 : Nat) = 0 by decide), elems, Nat.le_refl, if_true, h1, if_pos h2, e, hq, hs, if_pos (show 0 + 8 * 33 ≤ c.length by omega)]
theorem take_flat8 (f : Nat → Rf) : (flatOf Rf.cells (tab 8 f)).take 264 = flatOf Rf.cells (tab 8 f) := List.take_of_length_le (by rw [flat8_len]; exact Nat.le_refl _)
theorem splice_flat8 (f g : Nat → Rf) : splice (flatOf Rf.cells (tab 8 f)) 0 (flatOf Rf.cells (tab 8 g)) = flatOf Rf.cells (tab 8 g) := by
 simp [splice, flat8_len, List.drop_of_length_le]
def lq6 := And.intro @lenB (And.intro @Tr.row_len (And.intro @Rf.cells_len (And.intro @Nd.cells_len (And.intro @Tr.bl_len (And.intro @Tr.nd_len (And.intro @flat8_len (@flatU_len)))))))
theorem ans_page {m : Mem} {p : Nat} {t : Tr} (hp : own m p = some t.row) (k : Int) : Ans Tryz.prog 67 [.ptr p 0, .int .i64 k] m fun x m' => x = .agg (flatOf Rf.cells (t.page k)) ∧ Kept [] m m' := by
 refine ans_ret mixed ok67 ?_
 by_cases h0 : k = 0
 ·subst h0
  simp -implicitDefEqProofs (disch := (first | omega | (simp only [lq6] <;> omega) | fail)) only [admQ, lq6, aFill, AK.cls, implies_true, if_true, if_false, seval, -List.reduceReplicate, c67, r67, rf_zero]
  have o4 : own (m ++ [.row (rep 8 Rf.zero.cells) false, .row (rep 8 Rf.zero.cells) false]) m.length = some (flatOf Rf.cells (tab 8 fun _ => Rf.zero)) := by rw [own_app_at0, own_c0]; rfl
  have o5 : own (m ++ [.row (rep 8 Rf.zero.cells) false, .row (rep 8 Rf.zero.cells) false]) (m.length + 1) = some (flatOf Rf.cells (tab 8 fun _ => Rf.zero)) := by rw [own_app_at, own_c, own_c0]; rfl
  have hpM := own_app hp [.row (rep 8 Rf.zero.cells) false, .row (rep 8 Rf.zero.cells) false]
  have hkM : Kept [] m (m ++ [.row (rep 8 Rf.zero.cells) false, .row (rep 8 Rf.zero.cells) false]) := .app _ _ _
  generalize m ++ [Blk.row (rep 8 Rf.zero.cells) false, Blk.row (rep 8 Rf.zero.cells) false] = M at *
  have hl5 := own_lt o5
  refine LoopW.on (fun j : Nat => [(0, .ptr p 0), (4, .ptr m.length 0), (5, .ptr (m.length + 1) 0), (11, .int .i64 j)]) (fun j => 8 - j)
   (fun j M => j ≤ 8 ∧ Kept [] m M ∧ own M p = some t.row ∧ own M m.length = some (flatOf Rf.cells (tab 8 fun _ => Rf.zero)) ∧ own M (m.length + 1) = some (flatOf Rf.cells (upTo 8 (t.pageF 0) (fun _ => Rf.zero) j))) ?_ 0 _ _ rfl ⟨by omega, hkM, hpM, o4, by rw [upTo_zero]; exact o5⟩
  clear hkM hpM o4 o5 hl5
  rintro j M X ⟨hj, hkM, hpM, o4, o5⟩ hX
  have hpl := own_lt hp
  have hl5 := own_lt o5
  by_cases hlt : j < 8
  ·have e1 := t.n_part (i := j + 1) (by omega)
   have hne : ∀ q, q < M.length → q ≠ M.length := fun q h => by omega
   by_cases hs : (t.n (j + 1)).st = 1
   ·have hf : t.pageF 0 j = (t.n (j + 1)).ref := by rw [Tr.pageF, if_pos rfl, if_pos hs]
    have hset : splice (flatOf Rf.cells (upTo 8 (t.pageF 0) (fun _ => Rf.zero) j)) (j * 33) (t.n (j + 1)).ref.cells = flatOf Rf.cells (upTo 8 (t.pageF 0) (fun _ => Rf.zero) (j + 1)) := by
     rw [flatOf_set Rf.cells_len _ _ _ (by rw [upTo_len]; exact hlt), ← hf, upTo_set]
    simp -implicitDefEqProofs (disch := (first | omega | (simp only [lq6] <;> omega) | fail)) only [admQ, lq6, aFill, AK.cls, implies_true, if_true, if_false, seval, -List.reduceReplicate, rowOf_own hpM, own_app o5, e1, rf_zero, nd_zero, nd_zero2, splice_nd, take_nd, drop_nd, nd_st, hs, beq_self_eq_true, hset]
    have hk2 := (hkM.trans (.app [] M [.row (t.n (j + 1)).cells false])).trans (.app _ _ [])
    rw [List.append_nil] at hk2
    exact hX (j + 1) _ _ rfl (by omega) ⟨by omega, hk2.write (.inr (by omega)) _, own_set_ne' (own_app hpM _) (by omega) _, own_set_ne' (own_app o4 _) (by omega) _, own_set (own_lt (own_app o5 _)) _⟩
   ·have hf : t.pageF 0 j = Rf.zero := by rw [Tr.pageF, if_pos rfl, if_neg hs]
    simp -implicitDefEqProofs (disch := (first | omega | (simp only [lq6] <;> omega) | fail)) only [admQ, lq6, aFill, AK.cls, implies_true, if_true, if_false, seval, -List.reduceReplicate, rowOf_own hpM, e1, rf_zero, nd_zero, nd_zero2, splice_nd, take_nd, drop_nd, nd_st, beq_eq_false_iff_ne.mpr hs]
    have hu : upTo 8 (t.pageF 0) (fun _ => Rf.zero) (j + 1) = upTo 8 (t.pageF 0) (fun _ => Rf.zero) j := tab_ext fun i _ => by
     by_cases hij : i = j
     ·subst hij; simp [hf]
     ·by_cases h : i < j
      ·rw [if_pos h, if_pos (by omega)]
      ·rw [if_neg h, if_neg (by omega)]
    exact hX (j + 1) _ _ rfl (by omega) ⟨by omega, hkM.trans (.app _ _ _), own_app hpM _, own_app o4 _, by rw [hu]; exact own_app o5 _⟩
  ·obtain rfl : j = 8 := by omega
   rw [upTo_all] at o5
   simp -implicitDefEqProofs (disch := (first | omega | (simp only [lq6] <;> omega) | fail)) only [admQ, lq6, aFill, AK.cls, implies_true, if_true, if_false, seval, -List.reduceReplicate, rowOf_own o5, o4, take_flat8, splice_flat8, rowOf_set (own_lt o4)]
   exact ⟨rfl, hkM.write (.inr (by omega)) _⟩
 ·by_cases h1 : 1 ≤ k ∧ k ≤ 8
  ·obtain ⟨k, rfl⟩ := Int.eq_ofNat_of_zero_le (show 0 ≤ k by omega)
   simp -implicitDefEqProofs (disch := (first | omega | (simp only [lq6] <;> omega) | fail)) only [admQ, lq6, aFill, AK.cls, implies_true, if_true, if_false, seval, -List.reduceReplicate, c67, r67, rf_zero, beq_eq_false_iff_ne.mpr h0]
   have o4 : own (m ++ [.row (rep 8 Rf.zero.cells) false, .row (rep 8 Rf.zero.cells) false]) m.length = some (flatOf Rf.cells (tab 8 fun _ => Rf.zero)) := by rw [own_app_at0, own_c0]; rfl
   have o5 : own (m ++ [.row (rep 8 Rf.zero.cells) false, .row (rep 8 Rf.zero.cells) false]) (m.length + 1) = some (flatOf Rf.cells (tab 8 fun _ => Rf.zero)) := by rw [own_app_at, own_c, own_c0]; rfl
   have hpM := own_app hp [.row (rep 8 Rf.zero.cells) false, .row (rep 8 Rf.zero.cells) false]
   have hkM : Kept [] m (m ++ [.row (rep 8 Rf.zero.cells) false, .row (rep 8 Rf.zero.cells) false]) := .app _ _ _
   generalize m ++ [Blk.row (rep 8 Rf.zero.cells) false, Blk.row (rep 8 Rf.zero.cells) false] = M at *
   have hl5 := own_lt o5
   refine (ans_within _ 1 8 M).mono ?_
   rintro _ _ ⟨rfl, rfl⟩
   rename_i M
   simp -implicitDefEqProofs (disch := (first | omega | (simp only [lq6] <;> omega) | fail)) only [admQ, lq6, aFill, AK.cls, implies_true, if_true, if_false, seval, -List.reduceReplicate, dec_t h1, o4, o5, take_flat8, splice_flat8]
   have hk8 : 1 ≤ k ∧ k ≤ 8 := by omega
   refine (ans_span hpM hk8).mono ?_
   rintro _ _ ⟨⟨cap, s, rfl⟩, rfl⟩
   rename_i M
   have ha := copy_refs (cap := 8) (s := 0) (cap' := cap) (s' := s) (span_sl hpM hk8) o5 (flat8_len _)
   simp -implicitDefEqProofs (disch := (first | omega | (simp only [lq6] <;> omega) | fail)) only [admQ, lq6, aFill, AK.cls, implies_true, if_true, if_false, seval, -List.reduceReplicate, ha]
   have hlm4 := own_lt o4
   have hq5 : own (List.set M (m.length + 1) (.row (flatOf Rf.cells (tab 8 fun j => t.b (8 * (k - 1) + j))) false)) (m.length + 1) = some (flatOf Rf.cells (tab 8 fun j => t.b (8 * (k - 1) + j))) := own_set (own_lt o5) _
   have hq4 : own (List.set M (m.length + 1) (.row (flatOf Rf.cells (tab 8 fun j => t.b (8 * (k - 1) + j))) false)) m.length = some (flatOf Rf.cells (tab 8 fun _ => Rf.zero)) := own_set_ne' o4 (by omega) _
   have hkq := hkM.write (q := m.length + 1) (.inr (by omega)) (.row (flatOf Rf.cells (tab 8 fun j => t.b (8 * (k - 1) + j))) false)
   generalize List.set M (m.length + 1) (Blk.row (flatOf Rf.cells (tab 8 fun j => t.b (8 * (k - 1) + j))) false) = M2 at *
   have hf : t.page (k : Int) = tab 8 fun j => t.b (8 * (k - 1) + j) := tab_ext fun i _ => by rw [Tr.pageF, if_neg h0, if_pos h1, Int.toNat_natCast]
   simp -implicitDefEqProofs (disch := (first | omega | (simp only [lq6] <;> omega) | fail)) only [admQ, lq6, aFill, AK.cls, implies_true, if_true, if_false, seval, -List.reduceReplicate, rowOf_own hq5, hq4, take_flat8, splice_flat8, rowOf_set (own_lt hq4)]
   exact ⟨by rw [hf], hkq.write (.inr (by omega)) _⟩
  ·simp -implicitDefEqProofs (disch := (first | omega | (simp only [lq6] <;> omega) | fail)) only [admQ, lq6, aFill, AK.cls, implies_true, if_true, if_false, seval, -List.reduceReplicate, c67, r67, rf_zero, beq_eq_false_iff_ne.mpr h0]
   have o4 : own (m ++ [.row (rep 8 Rf.zero.cells) false, .row (rep 8 Rf.zero.cells) false]) m.length = some (flatOf Rf.cells (tab 8 fun _ => Rf.zero)) := by rw [own_app_at0, own_c0]; rfl
   have o5 : own (m ++ [.row (rep 8 Rf.zero.cells) false, .row (rep 8 Rf.zero.cells) false]) (m.length + 1) = some (flatOf Rf.cells (tab 8 fun _ => Rf.zero)) := by rw [own_app_at, own_c, own_c0]; rfl
   have hpM := own_app hp [.row (rep 8 Rf.zero.cells) false, .row (rep 8 Rf.zero.cells) false]
   have hkM : Kept [] m (m ++ [.row (rep 8 Rf.zero.cells) false, .row (rep 8 Rf.zero.cells) false]) := .app _ _ _
   generalize m ++ [Blk.row (rep 8 Rf.zero.cells) false, Blk.row (rep 8 Rf.zero.cells) false] = M at *
   have hl5 := own_lt o5
   refine (ans_within _ 1 8 M).mono ?_
   rintro _ _ ⟨rfl, rfl⟩
   rename_i M
   simp -implicitDefEqProofs (disch := (first | omega | (simp only [lq6] <;> omega) | fail)) only [admQ, lq6, aFill, AK.cls, implies_true, if_true, if_false, seval, -List.reduceReplicate, dec_f h1, o4, rowOf_own o5, take_flat8, splice_flat8, rowOf_set (own_lt o4)]
   have hf : t.page k = tab 8 fun _ => Rf.zero := tab_ext fun i _ => by rw [Tr.pageF, if_neg h0, if_neg h1]
   exact ⟨by rw [hf], hkM.write (.inr (by omega)) _⟩
def Tr.new : Tr := ⟨List.replicate 64 Rf.zero, (List.replicate 9 Nd.none).set 0 ⟨1, Rf.zero⟩, by simp, by simp⟩
def Tr.zero : Tr := ⟨List.replicate 64 Rf.zero, List.replicate 9 Nd.none, by simp, by simp⟩
theorem tr_zero : rep 64 Rf.zero.cells ++ rep 9 Nd.none.cells = Tr.zero.row := by rfl
theorem tr_new : splice Tr.zero.row 2112 [.int .i64 1] = Tr.new.row := by rfl
theorem ans_trnew (m : Mem) : Ans Tryz.prog 32 [] m fun x m' => x = .ptr m.length 0 ∧ Kept [] m m' ∧ own m' m.length = some Tr.new.row := by
 refine ans_ret mixed ok32 ?_
 simp -implicitDefEqProofs (disch := (first | omega | (simp only [lq6] <;> omega) | fail)) only [admQ, lq6, aFill, AK.cls, implies_true, if_true, if_false, seval, -List.reduceReplicate, c32, r32, rf_zero, nd_zero, nd_zero2, tr_zero, tr_new]
 exact .app _ _ _
end Go.Proofs.YtehnkcnjmfbjpaaGreat
end
section
namespace Go.Proofs.YtehnkcnjmfbjpaaGreat
open Go Go.Adm
set_option linter.unusedSimpArgs false
set_option maxRecDepth 100000
def cutI (x h : Int) : Int := if h < (if 0 > x then 0 else x) then h else (if 0 > x then 0 else x)
theorem cutI_min (x h : Int) : cutI x h = Min.min (Max.max x 0) h := by unfold cutI; simp only [Int.min_def, Int.max_def]; split <;> split <;> split <;> split <;> omega
def lqw := And.intro @Int.cast_ofNat_Int (And.intro @Bool.and_true (And.intro @Bool.true_and (And.intro @Bool.false_and (And.intro @Bool.and_false (And.intro @Bool.or_true (And.intro @Bool.or_false (And.intro @Bool.true_or (And.intro @Bool.false_or (And.intro @Bool.false_eq_true (And.intro @beq_true (And.intro @beq_false (And.intro @Bool.not_true (And.intro @Bool.not_false (And.intro @Nat.zero_add (And.intro @Nat.add_zero (And.intro @Nat.mul_one (And.intro @and_true (And.intro @true_and (And.intro @not_true_eq_false (@not_false_eq_true))))))))))))))))))))
theorem ans_cut (x h : Int) (m : Mem) : Ans Tryz.prog 61 [.int .i64 x, .int .i64 h] m fun r m' => r = .int .i64 (cutI x h) ∧ m' = m := by
 refine ans_ret mixed ok61 ?_
 simp -implicitDefEqProofs only [Go.Adm.adm, wantedA, evalAll, AX.eval, AFr.get, AFr.set, AFr.put, AFr.cut, frameOf, AK.loud, pMv, pPick, aPick, pNil, pArith, pShift, pCmp, pEq, pEqAgg, pNot, pNeg, pBnot, pConv, pArrPtr, pSlice, pSliceArr, pFieldAddr, pPart, pIdxAddr, pIdxAddrArr, pIdxArr, pIdxStr, pExtract, pLenStr, pLenArr, pMin, pMax, pIface, aArith, aShift, aCmp, aEq, aEqCk, aEqCells, aPart, bounds, bnd, rLoad, mkAlloc, mkBox, mkMake, rMark, mkS2b, w2, aStore, aFill, cellsV, AV.solid, undefA, resAll, resOne, resVal, pendOk, pastOk, cutCons, List.append_assoc, List.length_append, List.set_cons_zero, List.set_cons_succ, List.singleton_append, List.getElem?_cons_zero, List.getElem?_cons_succ, List.getElem?_nil, implies_true, false_implies, true_implies, Option.bind_some, Option.map_some, Option.bind_none, Option.map_none, Option.isSome_some, if_true, if_false, reduceCtorEq, Nat.reduceAdd, Nat.reduceEqDiff, Nat.reduceMod, Nat.reduceLT, Nat.reduceLeDiff, Nat.reduceSub, Nat.reduceMul, Int.reduceAdd, Int.reduceSub, Int.reduceMul, Int.reduceNeg, Int.reduceLT, Int.reduceLE, Int.reduceToNat, beq_self_eq_true, ↓reduceIte, List.length_nil, List.length_cons, List.take, List.drop, List.nil_append, List.cons_append, List.append_nil, decide_true, decide_false, lqw, c61, r61, cutI]
theorem ans_uswithin (x h : Int) (m : Mem) : Ans Tryz.prog 117 [.int .i64 x, .int .i64 h] m fun r m' => r = .bool (decide (0 ≤ x ∧ x ≤ h)) ∧ m' = m := by
 refine ans_ret mixed ok117 ?_
 simp only [c117, r117, Go.Adm.adm, wantedA, evalAll, AX.eval, AFr.get, AFr.set, AFr.put, AFr.cut, frameOf, AK.loud, pMv, pPick, aPick, pNil, pArith, pShift, pCmp, pEq, pEqAgg, pNot, pNeg, pBnot, pConv, pArrPtr, pSlice, pSliceArr, pFieldAddr, pPart, pIdxAddr, pIdxAddrArr, pIdxArr, pIdxStr, pExtract, pLenStr, pLenArr, pMin, pMax, pIface, aArith, aShift, aCmp, aEq, aEqCk, aEqCells, aPart, bounds, bnd, rLoad, mkAlloc, mkBox, mkMake, rMark, mkS2b, w2, aStore, aFill, cellsV, AV.solid, undefA, resAll, resOne, resVal, pendOk, pastOk, cutCons, List.append_assoc, List.length_append, List.set_cons_zero, List.set_cons_succ, List.singleton_append, List.getElem?_cons_zero, List.getElem?_cons_succ, List.getElem?_nil, implies_true, false_implies, true_implies, Option.bind_some, Option.map_some, Option.bind_none, Option.map_none, Option.isSome_some, if_true, if_false, reduceCtorEq, Nat.reduceAdd, Nat.reduceEqDiff, Nat.reduceMod, Nat.reduceLT, Nat.reduceLeDiff, Nat.reduceSub, Nat.reduceMul, Int.reduceAdd, Int.reduceSub, Int.reduceMul, Int.reduceNeg, Int.reduceLT, Int.reduceLE, Int.reduceToNat, beq_self_eq_true, ↓reduceIte, List.length_nil, List.length_cons, List.take, List.drop, List.nil_append, List.cons_append, List.append_nil, decide_true, decide_false, lqw]
 refine guardS_i (fun h1 => ?_) (fun h1 => ?_)
 ·simp only [Go.Adm.adm, wantedA, evalAll, AX.eval, AFr.get, AFr.set, AFr.put, AFr.cut, frameOf, AK.loud, pMv, pPick, aPick, pNil, pArith, pShift, pCmp, pEq, pEqAgg, pNot, pNeg, pBnot, pConv, pArrPtr, pSlice, pSliceArr, pFieldAddr, pPart, pIdxAddr, pIdxAddrArr, pIdxArr, pIdxStr, pExtract, pLenStr, pLenArr, pMin, pMax, pIface, aArith, aShift, aCmp, aEq, aEqCk, aEqCells, aPart, bounds, bnd, rLoad, mkAlloc, mkBox, mkMake, rMark, mkS2b, w2, aStore, aFill, cellsV, AV.solid, undefA, resAll, resOne, resVal, pendOk, pastOk, cutCons, List.append_assoc, List.length_append, List.set_cons_zero, List.set_cons_succ, List.singleton_append, List.getElem?_cons_zero, List.getElem?_cons_succ, List.getElem?_nil, implies_true, false_implies, true_implies, Option.bind_some, Option.map_some, Option.bind_none, Option.map_none, Option.isSome_some, if_true, if_false, reduceCtorEq, Nat.reduceAdd, Nat.reduceEqDiff, Nat.reduceMod, Nat.reduceLT, Nat.reduceLeDiff, Nat.reduceSub, Nat.reduceMul, Int.reduceAdd, Int.reduceSub, Int.reduceMul, Int.reduceNeg, Int.reduceLT, Int.reduceLE, Int.reduceToNat, beq_self_eq_true, ↓reduceIte, List.length_nil, List.length_cons, List.take, List.drop, List.nil_append, List.cons_append, List.append_nil, decide_true, decide_false, lqw, h1]
  have h2 : 0 ≤ x := by simpa using h1
  simp [h2]
 ·simp only [Go.Adm.adm, wantedA, evalAll, AX.eval, AFr.get, AFr.set, AFr.put, AFr.cut, frameOf, AK.loud, pMv, pPick, aPick, pNil, pArith, pShift, pCmp, pEq, pEqAgg, pNot, pNeg, pBnot, pConv, pArrPtr, pSlice, pSliceArr, pFieldAddr, pPart, pIdxAddr, pIdxAddrArr, pIdxArr, pIdxStr, pExtract, pLenStr, pLenArr, pMin, pMax, pIface, aArith, aShift, aCmp, aEq, aEqCk, aEqCells, aPart, bounds, bnd, rLoad, mkAlloc, mkBox, mkMake, rMark, mkS2b, w2, aStore, aFill, cellsV, AV.solid, undefA, resAll, resOne, resVal, pendOk, pastOk, cutCons, List.append_assoc, List.length_append, List.set_cons_zero, List.set_cons_succ, List.singleton_append, List.getElem?_cons_zero, List.getElem?_cons_succ, List.getElem?_nil, implies_true, false_implies, true_implies, Option.bind_some, Option.map_some, Option.bind_none, Option.map_none, Option.isSome_some, if_true, if_false, reduceCtorEq, Nat.reduceAdd, Nat.reduceEqDiff, Nat.reduceMod, Nat.reduceLT, Nat.reduceLeDiff, Nat.reduceSub, Nat.reduceMul, Int.reduceAdd, Int.reduceSub, Int.reduceMul, Int.reduceNeg, Int.reduceLT, Int.reduceLE, Int.reduceToNat, beq_self_eq_true, ↓reduceIte, List.length_nil, List.length_cons, List.take, List.drop, List.nil_append, List.cons_append, List.append_nil, decide_true, decide_false, lqw, h1]
  have h2 : ¬ 0 ≤ x := by simpa using h1
  simp [h2]
structure Sg where
 st : Int
 lv : Int
 ag : Int
deriving DecidableEq, Repr
def Sg.cells (s : Sg) : List AV := [.int .i64 s.st, .int .i64 s.lv, .int .i64 s.ag]
theorem Sg.cells_len (s : Sg) : s.cells.length = 3 := rfl
abbrev flat (l : List Sg) : List AV := flatOf Sg.cells l
theorem flat_len (l : List Sg) : (flat l).length = l.length * 3 := flatOf_length Sg.cells_len l
theorem flat_rep (k : Nat) (z : Sg) : rep k z.cells = flat (List.replicate k z) := by simp [rep, flatOf, List.flatMap_def, List.map_replicate]
theorem flat_if (l : List Sg) (i : Nat) (h : i < l.length) : (if i * 3 + 3 ≤ (flat l).length then some (AV.agg (List.take 3 (List.drop (i * 3) (flat l)))) else none) = some (.agg l[i].cells) := by
 have := flatOf_get Sg.cells_len l i h
 rw [if_pos (by rw [flat_len]; omega), this]
theorem flat_st {l : List Sg} {i : Nat} {x : Sg} (h : l[i]? = some x) : (flat l)[i * 3]? = some (.int .i64 x.st) := by
 obtain ⟨hi, rfl⟩ := List.getElem?_eq_some_iff.mp h
 exact flatOf_cell Sg.cells_len l i 0 hi (by omega)
theorem flat_lv {l : List Sg} {i : Nat} {x : Sg} (h : l[i]? = some x) : (flat l)[i * 3 + 1]? = some (.int .i64 x.lv) := by
 obtain ⟨hi, rfl⟩ := List.getElem?_eq_some_iff.mp h
 exact flatOf_cell Sg.cells_len l i 1 hi (by omega)
theorem set_st {l : List Sg} {i : Nat} {x : Sg} (h : l[i]? = some x) (v : Int) : splice (flat l) (i * 3) [.int .i64 v] = flat (l.set i { x with st := v }) := by
 obtain ⟨hi, rfl⟩ := List.getElem?_eq_some_iff.mp h
 exact flatOf_set1 Sg.cells_len l i 0 _ _ hi (by omega) rfl
theorem set_lv {l : List Sg} {i : Nat} {x : Sg} (h : l[i]? = some x) (v : Int) : splice (flat l) (i * 3 + 1) [.int .i64 v] = flat (l.set i { x with lv := v }) := by
 obtain ⟨hi, rfl⟩ := List.getElem?_eq_some_iff.mp h
 exact flatOf_set1 Sg.cells_len l i 1 _ _ hi (by omega) rfl
theorem set_ag {l : List Sg} {i : Nat} {x : Sg} (h : l[i]? = some x) (v : Int) : splice (flat l) (i * 3 + 2) [.int .i64 v] = flat (l.set i { x with ag := v }) := by
 obtain ⟨hi, rfl⟩ := List.getElem?_eq_some_iff.mp h
 exact flatOf_set1 Sg.cells_len l i 2 _ _ hi (by omega) rfl
theorem set_all {l : List Sg} {i : Nat} {x : Sg} (h : l[i]? = some x) (a b c : Int) : splice (flat l) (i * 3) [.int .i64 a, .int .i64 b, .int .i64 c] = flat (l.set i ⟨a, b, c⟩) := by
 obtain ⟨hi, rfl⟩ := List.getElem?_eq_some_iff.mp h
 exact flatOf_set Sg.cells_len l i ⟨a, b, c⟩ hi
theorem flat_le {l : List Sg} {i : Nat} {x : Sg} (h : l[i]? = some x) {j : Nat} (hj : j ≤ 3) : i * 3 + j ≤ (flat l).length := by
 obtain ⟨hi, rfl⟩ := List.getElem?_eq_some_iff.mp h
 rw [flat_len]; omega
theorem ans_of (s : Int) (x : Sg) (m : Mem) : Ans Tryz.prog 98 [.int .i64 s, .agg x.cells] m fun r m' => r = .bool (x.st == s) ∧ Kept [] m m' := by
 refine ans_ret mixed ok98 ?_
 simp only [c98, r98, Sg.cells, Go.Adm.adm, wantedA, evalAll, AX.eval, AFr.get, AFr.set, AFr.put, AFr.cut, frameOf, AK.loud, pMv, pPick, aPick, pNil, pArith, pShift, pCmp, pEq, pEqAgg, pNot, pNeg, pBnot, pConv, pArrPtr, pSlice, pSliceArr, pFieldAddr, pPart, pIdxAddr, pIdxAddrArr, pIdxArr, pIdxStr, pExtract, pLenStr, pLenArr, pMin, pMax, pIface, aArith, aShift, aCmp, aEq, aEqCk, aEqCells, aPart, bounds, bnd, rLoad, mkAlloc, mkBox, mkMake, rMark, mkS2b, w2, aStore, aFill, cellsV, AV.solid, undefA, resAll, resOne, resVal, pendOk, pastOk, cutCons, List.append_assoc, List.length_append, List.set_cons_zero, List.set_cons_succ, List.singleton_append, List.getElem?_cons_zero, List.getElem?_cons_succ, List.getElem?_nil, implies_true, false_implies, true_implies, Option.bind_some, Option.map_some, Option.bind_none, Option.map_none, Option.isSome_some, if_true, if_false, reduceCtorEq, Nat.reduceAdd, Nat.reduceEqDiff, Nat.reduceMod, Nat.reduceLT, Nat.reduceLeDiff, Nat.reduceSub, Nat.reduceMul, Int.reduceAdd, Int.reduceSub, Int.reduceMul, Int.reduceNeg, Int.reduceLT, Int.reduceLE, Int.reduceToNat, beq_self_eq_true, ↓reduceIte, List.length_nil, List.length_cons, List.take, List.drop, List.nil_append, List.cons_append, List.append_nil, decide_true, decide_false, lqw]
 exact .app _ _ _
def idxOf (s : Int) (l : List Sg) : Int := match l.findIdx? (·.st == s) with | some i => i | none => -1
theorem idxOf_some {s : Int} {l : List Sg} {i : Nat} (hi : i < l.length) (h1 : l[i].st = s) (h2 : ∀ j (h : j < l.length), j < i → l[j].st ≠ s) : idxOf s l = i := by
 have : l.findIdx? (·.st == s) = some i := by
  rw [List.findIdx?_eq_some_iff_getElem]
  exact ⟨hi, by simpa using h1, fun j hj => by simpa using h2 j (by omega) hj⟩
 simp [idxOf, this]
theorem idxOf_none {s : Int} {l : List Sg} (h2 : ∀ j (h : j < l.length), l[j].st ≠ s) : idxOf s l = -1 := by
 have : l.findIdx? (·.st == s) = none := by
  rw [List.findIdx?_eq_none_iff]
  intro x hx
  obtain ⟨j, hj, rfl⟩ := List.mem_iff_getElem.mp hx
  simpa using h2 j hj
 simp [idxOf, this]
theorem ans_indexFunc (s : Int) (b cap k0 : Nat) (l : List Sg) (hl : l.length ≤ 64) (m : Mem) (hb : rowOf m b = some (flat l)) : Ans Tryz.prog 97 [.sl b 0 l.length cap k0, .fn (.func 98) [.int .i64 s] []] m fun r m' => r = .int .i64 (idxOf s l) ∧ Kept [] m m' := by
 refine ans_ret mixed ok97 ?_
 simp -implicitDefEqProofs only [Go.Adm.adm, wantedA, evalAll, AX.eval, AFr.get, AFr.set, AFr.put, AFr.cut, frameOf, AK.loud, pMv, pPick, aPick, pNil, pArith, pShift, pCmp, pEq, pEqAgg, pNot, pNeg, pBnot, pConv, pArrPtr, pSlice, pSliceArr, pFieldAddr, pPart, pIdxAddr, pIdxAddrArr, pIdxArr, pIdxStr, pExtract, pLenStr, pLenArr, pMin, pMax, pIface, aArith, aShift, aCmp, aEq, aEqCk, aEqCells, aPart, bounds, bnd, rLoad, mkAlloc, mkBox, mkMake, rMark, mkS2b, w2, aStore, aFill, cellsV, AV.solid, undefA, resAll, resOne, resVal, pendOk, pastOk, cutCons, List.append_assoc, List.length_append, List.set_cons_zero, List.set_cons_succ, List.singleton_append, List.getElem?_cons_zero, List.getElem?_cons_succ, List.getElem?_nil, implies_true, false_implies, true_implies, Option.bind_some, Option.map_some, Option.bind_none, Option.map_none, Option.isSome_some, if_true, if_false, reduceCtorEq, Nat.reduceAdd, Nat.reduceEqDiff, Nat.reduceMod, Nat.reduceLT, Nat.reduceLeDiff, Nat.reduceSub, Nat.reduceMul, Int.reduceAdd, Int.reduceSub, Int.reduceMul, Int.reduceNeg, Int.reduceLT, Int.reduceLE, Int.reduceToNat, beq_self_eq_true, ↓reduceIte, List.length_nil, List.length_cons, List.take, List.drop, List.nil_append, List.cons_append, List.append_nil, decide_true, decide_false, lqw, c97, r97]
 refine LoopW.on (fun i : Nat => [(0, .sl b 0 l.length cap k0), (1, .fn (.func 98) [.int .i64 s] []), (7, .int .i64 l.length), (8, .int .i64 i)]) (fun i => l.length - i) (fun i m' => i ≤ l.length ∧ Kept [] m m' ∧ ∀ j (h : j < l.length), j < i → l[j].st ≠ s) ?_ 0 _ _ rfl ⟨by omega, .refl _ _, fun _ _ h => by omega⟩
 rintro i m' X ⟨hi, hk, hn⟩ hX
 simp -implicitDefEqProofs only [Go.Adm.adm, wantedA, evalAll, AX.eval, AFr.get, AFr.set, AFr.put, AFr.cut, frameOf, AK.loud, pMv, pPick, aPick, pNil, pArith, pShift, pCmp, pEq, pEqAgg, pNot, pNeg, pBnot, pConv, pArrPtr, pSlice, pSliceArr, pFieldAddr, pPart, pIdxAddr, pIdxAddrArr, pIdxArr, pIdxStr, pExtract, pLenStr, pLenArr, pMin, pMax, pIface, aArith, aShift, aCmp, aEq, aEqCk, aEqCells, aPart, bounds, bnd, rLoad, mkAlloc, mkBox, mkMake, rMark, mkS2b, w2, aStore, aFill, cellsV, AV.solid, undefA, resAll, resOne, resVal, pendOk, pastOk, cutCons, List.append_assoc, List.length_append, List.set_cons_zero, List.set_cons_succ, List.singleton_append, List.getElem?_cons_zero, List.getElem?_cons_succ, List.getElem?_nil, implies_true, false_implies, true_implies, Option.bind_some, Option.map_some, Option.bind_none, Option.map_none, Option.isSome_some, if_true, if_false, reduceCtorEq, Nat.reduceAdd, Nat.reduceEqDiff, Nat.reduceMod, Nat.reduceLT, Nat.reduceLeDiff, Nat.reduceSub, Nat.reduceMul, Int.reduceAdd, Int.reduceSub, Int.reduceMul, Int.reduceNeg, Int.reduceLT, Int.reduceLE, Int.reduceToNat, beq_self_eq_true, ↓reduceIte, List.length_nil, List.length_cons, List.take, List.drop, List.nil_append, List.cons_append, List.append_nil, decide_true, decide_false, lqw]
 refine condS_d (fun h => ?_) (fun h => ?_)
 ·have hi' : i < l.length := by omega
  have e1 : (0 : Int) ≤ (i : Int) ∧ (i : Int) < (l.length : Int) := ⟨by omega, h⟩
  simp -implicitDefEqProofs only [Go.Adm.adm, wantedA, evalAll, AX.eval, AFr.get, AFr.set, AFr.put, AFr.cut, frameOf, AK.loud, pMv, pPick, aPick, pNil, pArith, pShift, pCmp, pEq, pEqAgg, pNot, pNeg, pBnot, pConv, pArrPtr, pSlice, pSliceArr, pFieldAddr, pPart, pIdxAddr, pIdxAddrArr, pIdxArr, pIdxStr, pExtract, pLenStr, pLenArr, pMin, pMax, pIface, aArith, aShift, aCmp, aEq, aEqCk, aEqCells, aPart, bounds, bnd, rLoad, mkAlloc, mkBox, mkMake, rMark, mkS2b, w2, aStore, aFill, cellsV, AV.solid, undefA, resAll, resOne, resVal, pendOk, pastOk, cutCons, List.append_assoc, List.length_append, List.set_cons_zero, List.set_cons_succ, List.singleton_append, List.getElem?_cons_zero, List.getElem?_cons_succ, List.getElem?_nil, implies_true, false_implies, true_implies, Option.bind_some, Option.map_some, Option.bind_none, Option.map_none, Option.isSome_some, if_true, if_false, reduceCtorEq, Nat.reduceAdd, Nat.reduceEqDiff, Nat.reduceMod, Nat.reduceLT, Nat.reduceLeDiff, Nat.reduceSub, Nat.reduceMul, Int.reduceAdd, Int.reduceSub, Int.reduceMul, Int.reduceNeg, Int.reduceLT, Int.reduceLE, Int.reduceToNat, beq_self_eq_true, ↓reduceIte, List.length_nil, List.length_cons, List.take, List.drop, List.nil_append, List.cons_append, List.append_nil, decide_true, decide_false, lqw, hk.row0 hb, e1, flat_if l i hi', Int.toNat_natCast]
  refine (ans_of s _ _).mono ?_
  rintro _ m1 ⟨rfl, hk1⟩
  simp -implicitDefEqProofs only [Go.Adm.adm, wantedA, evalAll, AX.eval, AFr.get, AFr.set, AFr.put, AFr.cut, frameOf, AK.loud, pMv, pPick, aPick, pNil, pArith, pShift, pCmp, pEq, pEqAgg, pNot, pNeg, pBnot, pConv, pArrPtr, pSlice, pSliceArr, pFieldAddr, pPart, pIdxAddr, pIdxAddrArr, pIdxArr, pIdxStr, pExtract, pLenStr, pLenArr, pMin, pMax, pIface, aArith, aShift, aCmp, aEq, aEqCk, aEqCells, aPart, bounds, bnd, rLoad, mkAlloc, mkBox, mkMake, rMark, mkS2b, w2, aStore, aFill, cellsV, AV.solid, undefA, resAll, resOne, resVal, pendOk, pastOk, cutCons, List.append_assoc, List.length_append, List.set_cons_zero, List.set_cons_succ, List.singleton_append, List.getElem?_cons_zero, List.getElem?_cons_succ, List.getElem?_nil, implies_true, false_implies, true_implies, Option.bind_some, Option.map_some, Option.bind_none, Option.map_none, Option.isSome_some, if_true, if_false, reduceCtorEq, Nat.reduceAdd, Nat.reduceEqDiff, Nat.reduceMod, Nat.reduceLT, Nat.reduceLeDiff, Nat.reduceSub, Nat.reduceMul, Int.reduceAdd, Int.reduceSub, Int.reduceMul, Int.reduceNeg, Int.reduceLT, Int.reduceLE, Int.reduceToNat, beq_self_eq_true, ↓reduceIte, List.length_nil, List.length_cons, List.take, List.drop, List.nil_append, List.cons_append, List.append_nil, decide_true, decide_false, lqw]
  refine condS_i (fun h2 => ?_) (fun h2 => ?_)
  ·simp -implicitDefEqProofs only [Go.Adm.adm, wantedA, evalAll, AX.eval, AFr.get, AFr.set, AFr.put, AFr.cut, frameOf, AK.loud, pMv, pPick, aPick, pNil, pArith, pShift, pCmp, pEq, pEqAgg, pNot, pNeg, pBnot, pConv, pArrPtr, pSlice, pSliceArr, pFieldAddr, pPart, pIdxAddr, pIdxAddrArr, pIdxArr, pIdxStr, pExtract, pLenStr, pLenArr, pMin, pMax, pIface, aArith, aShift, aCmp, aEq, aEqCk, aEqCells, aPart, bounds, bnd, rLoad, mkAlloc, mkBox, mkMake, rMark, mkS2b, w2, aStore, aFill, cellsV, AV.solid, undefA, resAll, resOne, resVal, pendOk, pastOk, cutCons, List.append_assoc, List.length_append, List.set_cons_zero, List.set_cons_succ, List.singleton_append, List.getElem?_cons_zero, List.getElem?_cons_succ, List.getElem?_nil, implies_true, false_implies, true_implies, Option.bind_some, Option.map_some, Option.bind_none, Option.map_none, Option.isSome_some, if_true, if_false, reduceCtorEq, Nat.reduceAdd, Nat.reduceEqDiff, Nat.reduceMod, Nat.reduceLT, Nat.reduceLeDiff, Nat.reduceSub, Nat.reduceMul, Int.reduceAdd, Int.reduceSub, Int.reduceMul, Int.reduceNeg, Int.reduceLT, Int.reduceLE, Int.reduceToNat, beq_self_eq_true, ↓reduceIte, List.length_nil, List.length_cons, List.take, List.drop, List.nil_append, List.cons_append, List.append_nil, decide_true, decide_false, lqw]
   refine ⟨?_, hk.trans hk1⟩
   rw [idxOf_some hi' (by simpa using h2) hn]
  ·simp -implicitDefEqProofs only [Go.Adm.adm, wantedA, evalAll, AX.eval, AFr.get, AFr.set, AFr.put, AFr.cut, frameOf, AK.loud, pMv, pPick, aPick, pNil, pArith, pShift, pCmp, pEq, pEqAgg, pNot, pNeg, pBnot, pConv, pArrPtr, pSlice, pSliceArr, pFieldAddr, pPart, pIdxAddr, pIdxAddrArr, pIdxArr, pIdxStr, pExtract, pLenStr, pLenArr, pMin, pMax, pIface, aArith, aShift, aCmp, aEq, aEqCk, aEqCells, aPart, bounds, bnd, rLoad, mkAlloc, mkBox, mkMake, rMark, mkS2b, w2, aStore, aFill, cellsV, AV.solid, undefA, resAll, resOne, resVal, pendOk, pastOk, cutCons, List.append_assoc, List.length_append, List.set_cons_zero, List.set_cons_succ, List.singleton_append, List.getElem?_cons_zero, List.getElem?_cons_succ, List.getElem?_nil, implies_true, false_implies, true_implies, Option.bind_some, Option.map_some, Option.bind_none, Option.map_none, Option.isSome_some, if_true, if_false, reduceCtorEq, Nat.reduceAdd, Nat.reduceEqDiff, Nat.reduceMod, Nat.reduceLT, Nat.reduceLeDiff, Nat.reduceSub, Nat.reduceMul, Int.reduceAdd, Int.reduceSub, Int.reduceMul, Int.reduceNeg, Int.reduceLT, Int.reduceLE, Int.reduceToNat, beq_self_eq_true, ↓reduceIte, List.length_nil, List.length_cons, List.take, List.drop, List.nil_append, List.cons_append, List.append_nil, decide_true, decide_false, lqw]
   rw [wrap_i64 (by omega) (by omega)]
   refine hX (i + 1) _ _ rfl (by omega) ⟨by omega, hk.trans hk1, fun j hj hlt => ?_⟩
   by_cases hji : j = i
   ·subst hji; simpa using h2
   ·exact hn j hj (by omega)
 ·simp -implicitDefEqProofs only [Go.Adm.adm, wantedA, evalAll, AX.eval, AFr.get, AFr.set, AFr.put, AFr.cut, frameOf, AK.loud, pMv, pPick, aPick, pNil, pArith, pShift, pCmp, pEq, pEqAgg, pNot, pNeg, pBnot, pConv, pArrPtr, pSlice, pSliceArr, pFieldAddr, pPart, pIdxAddr, pIdxAddrArr, pIdxArr, pIdxStr, pExtract, pLenStr, pLenArr, pMin, pMax, pIface, aArith, aShift, aCmp, aEq, aEqCk, aEqCells, aPart, bounds, bnd, rLoad, mkAlloc, mkBox, mkMake, rMark, mkS2b, w2, aStore, aFill, cellsV, AV.solid, undefA, resAll, resOne, resVal, pendOk, pastOk, cutCons, List.append_assoc, List.length_append, List.set_cons_zero, List.set_cons_succ, List.singleton_append, List.getElem?_cons_zero, List.getElem?_cons_succ, List.getElem?_nil, implies_true, false_implies, true_implies, Option.bind_some, Option.map_some, Option.bind_none, Option.map_none, Option.isSome_some, if_true, if_false, reduceCtorEq, Nat.reduceAdd, Nat.reduceEqDiff, Nat.reduceMod, Nat.reduceLT, Nat.reduceLeDiff, Nat.reduceSub, Nat.reduceMul, Int.reduceAdd, Int.reduceSub, Int.reduceMul, Int.reduceNeg, Int.reduceLT, Int.reduceLE, Int.reduceToNat, beq_self_eq_true, ↓reduceIte, List.length_nil, List.length_cons, List.take, List.drop, List.nil_append, List.cons_append, List.append_nil, decide_true, decide_false, lqw]
  refine ⟨?_, hk⟩
  rw [idxOf_none fun j hj => hn j hj (by omega)]
structure Tab (m : Mem) (p b : Nat) (l : List Sg) : Prop where
 hd : own m p = some [.sl b 0 l.length l.length 0]
 rows : own m b = some (flat l)
 ne : p ≠ b
theorem Tab.kept {X : List Nat} {m m' : Mem} {p b : Nat} {l : List Sg} (h : Tab m p b l) (hk : Kept X m m') (h1 : p ∉ X) (h2 : b ∉ X) : Tab m' p b l := ⟨hk.own h.hd h1, hk.own h.rows h2, h.ne⟩
theorem Tab.kept0 {m m' : Mem} {p b : Nat} {l : List Sg} (h : Tab m p b l) (hk : Kept [] m m') : Tab m' p b l := h.kept hk (by simp) (by simp)
theorem ans_first {m : Mem} {p b : Nat} {l : List Sg} (h : Tab m p b l) (hl : l.length ≤ 64) (s : Int) : Ans Tryz.prog 62 [.ptr p 0, .int .i64 s] m fun r m' => r = .int .i64 (idxOf s l) ∧ Kept [] m m' := by
 refine ans_ret mixed ok62 ?_
 simp -implicitDefEqProofs only [Go.Adm.adm, wantedA, evalAll, AX.eval, AFr.get, AFr.set, AFr.put, AFr.cut, frameOf, AK.loud, pMv, pPick, aPick, pNil, pArith, pShift, pCmp, pEq, pEqAgg, pNot, pNeg, pBnot, pConv, pArrPtr, pSlice, pSliceArr, pFieldAddr, pPart, pIdxAddr, pIdxAddrArr, pIdxArr, pIdxStr, pExtract, pLenStr, pLenArr, pMin, pMax, pIface, aArith, aShift, aCmp, aEq, aEqCk, aEqCells, aPart, bounds, bnd, rLoad, mkAlloc, mkBox, mkMake, rMark, mkS2b, w2, aStore, aFill, cellsV, AV.solid, undefA, resAll, resOne, resVal, pendOk, pastOk, cutCons, List.append_assoc, List.length_append, List.set_cons_zero, List.set_cons_succ, List.singleton_append, List.getElem?_cons_zero, List.getElem?_cons_succ, List.getElem?_nil, implies_true, false_implies, true_implies, Option.bind_some, Option.map_some, Option.bind_none, Option.map_none, Option.isSome_some, if_true, if_false, reduceCtorEq, Nat.reduceAdd, Nat.reduceEqDiff, Nat.reduceMod, Nat.reduceLT, Nat.reduceLeDiff, Nat.reduceSub, Nat.reduceMul, Int.reduceAdd, Int.reduceSub, Int.reduceMul, Int.reduceNeg, Int.reduceLT, Int.reduceLE, Int.reduceToNat, beq_self_eq_true, ↓reduceIte, List.length_nil, List.length_cons, List.take, List.drop, List.nil_append, List.cons_append, List.append_nil, decide_true, decide_false, lqw, c62, r62, rowOf_own h.hd]
 refine (ans_indexFunc s b _ _ l hl _ (rowOf_own h.rows)).mono ?_
 rintro _ m1 ⟨rfl, hk1⟩
 simp -implicitDefEqProofs only [Go.Adm.adm, wantedA, evalAll, AX.eval, AFr.get, AFr.set, AFr.put, AFr.cut, frameOf, AK.loud, pMv, pPick, aPick, pNil, pArith, pShift, pCmp, pEq, pEqAgg, pNot, pNeg, pBnot, pConv, pArrPtr, pSlice, pSliceArr, pFieldAddr, pPart, pIdxAddr, pIdxAddrArr, pIdxArr, pIdxStr, pExtract, pLenStr, pLenArr, pMin, pMax, pIface, aArith, aShift, aCmp, aEq, aEqCk, aEqCells, aPart, bounds, bnd, rLoad, mkAlloc, mkBox, mkMake, rMark, mkS2b, w2, aStore, aFill, cellsV, AV.solid, undefA, resAll, resOne, resVal, pendOk, pastOk, cutCons, List.append_assoc, List.length_append, List.set_cons_zero, List.set_cons_succ, List.singleton_append, List.getElem?_cons_zero, List.getElem?_cons_succ, List.getElem?_nil, implies_true, false_implies, true_implies, Option.bind_some, Option.map_some, Option.bind_none, Option.map_none, Option.isSome_some, if_true, if_false, reduceCtorEq, Nat.reduceAdd, Nat.reduceEqDiff, Nat.reduceMod, Nat.reduceLT, Nat.reduceLeDiff, Nat.reduceSub, Nat.reduceMul, Int.reduceAdd, Int.reduceSub, Int.reduceMul, Int.reduceNeg, Int.reduceLT, Int.reduceLE, Int.reduceToNat, beq_self_eq_true, ↓reduceIte, List.length_nil, List.length_cons, List.take, List.drop, List.nil_append, List.cons_append, List.append_nil, decide_true, decide_false, lqw]
 exact hk1
theorem ans_open {m : Mem} {p b : Nat} {l : List Sg} (h : Tab m p b l) (hl : l.length ≤ 64) : Ans Tryz.prog 63 [.ptr p 0] m fun r m' => r = .int .i64 (idxOf 1 l) ∧ Kept [] m m' := by
 refine ans_ret mixed ok63 ?_
 simp -implicitDefEqProofs only [Go.Adm.adm, wantedA, evalAll, AX.eval, AFr.get, AFr.set, AFr.put, AFr.cut, frameOf, AK.loud, pMv, pPick, aPick, pNil, pArith, pShift, pCmp, pEq, pEqAgg, pNot, pNeg, pBnot, pConv, pArrPtr, pSlice, pSliceArr, pFieldAddr, pPart, pIdxAddr, pIdxAddrArr, pIdxArr, pIdxStr, pExtract, pLenStr, pLenArr, pMin, pMax, pIface, aArith, aShift, aCmp, aEq, aEqCk, aEqCells, aPart, bounds, bnd, rLoad, mkAlloc, mkBox, mkMake, rMark, mkS2b, w2, aStore, aFill, cellsV, AV.solid, undefA, resAll, resOne, resVal, pendOk, pastOk, cutCons, List.append_assoc, List.length_append, List.set_cons_zero, List.set_cons_succ, List.singleton_append, List.getElem?_cons_zero, List.getElem?_cons_succ, List.getElem?_nil, implies_true, false_implies, true_implies, Option.bind_some, Option.map_some, Option.bind_none, Option.map_none, Option.isSome_some, if_true, if_false, reduceCtorEq, Nat.reduceAdd, Nat.reduceEqDiff, Nat.reduceMod, Nat.reduceLT, Nat.reduceLeDiff, Nat.reduceSub, Nat.reduceMul, Int.reduceAdd, Int.reduceSub, Int.reduceMul, Int.reduceNeg, Int.reduceLT, Int.reduceLE, Int.reduceToNat, beq_self_eq_true, ↓reduceIte, List.length_nil, List.length_cons, List.take, List.drop, List.nil_append, List.cons_append, List.append_nil, decide_true, decide_false, lqw, c63, r63]
 refine (ans_first h hl 1).mono ?_
 rintro _ m1 ⟨rfl, hk1⟩
 simp -implicitDefEqProofs only [Go.Adm.adm, wantedA, evalAll, AX.eval, AFr.get, AFr.set, AFr.put, AFr.cut, frameOf, AK.loud, pMv, pPick, aPick, pNil, pArith, pShift, pCmp, pEq, pEqAgg, pNot, pNeg, pBnot, pConv, pArrPtr, pSlice, pSliceArr, pFieldAddr, pPart, pIdxAddr, pIdxAddrArr, pIdxArr, pIdxStr, pExtract, pLenStr, pLenArr, pMin, pMax, pIface, aArith, aShift, aCmp, aEq, aEqCk, aEqCells, aPart, bounds, bnd, rLoad, mkAlloc, mkBox, mkMake, rMark, mkS2b, w2, aStore, aFill, cellsV, AV.solid, undefA, resAll, resOne, resVal, pendOk, pastOk, cutCons, List.append_assoc, List.length_append, List.set_cons_zero, List.set_cons_succ, List.singleton_append, List.getElem?_cons_zero, List.getElem?_cons_succ, List.getElem?_nil, implies_true, false_implies, true_implies, Option.bind_some, Option.map_some, Option.bind_none, Option.map_none, Option.isSome_some, if_true, if_false, reduceCtorEq, Nat.reduceAdd, Nat.reduceEqDiff, Nat.reduceMod, Nat.reduceLT, Nat.reduceLeDiff, Nat.reduceSub, Nat.reduceMul, Int.reduceAdd, Int.reduceSub, Int.reduceMul, Int.reduceNeg, Int.reduceLT, Int.reduceLE, Int.reduceToNat, beq_self_eq_true, ↓reduceIte, List.length_nil, List.length_cons, List.take, List.drop, List.nil_append, List.cons_append, List.append_nil, decide_true, decide_false, lqw]
 exact hk1
theorem ans_new (n : Int) (m : Mem) : Ans Tryz.prog 30 [.int .i64 n] m fun r m' => ∃ p b, r = .ptr p 0 ∧ Kept [] m m' ∧ m.length ≤ p ∧ m.length ≤ b ∧ Tab m' p b (List.replicate (Min.min (Max.max n 0) 32).toNat ⟨0, 0, 0⟩) := by
 refine ans_ret mixed ok30 ?_
 simp -implicitDefEqProofs only [Go.Adm.adm, wantedA, evalAll, AX.eval, AFr.get, AFr.set, AFr.put, AFr.cut, frameOf, AK.loud, pMv, pPick, aPick, pNil, pArith, pShift, pCmp, pEq, pEqAgg, pNot, pNeg, pBnot, pConv, pArrPtr, pSlice, pSliceArr, pFieldAddr, pPart, pIdxAddr, pIdxAddrArr, pIdxArr, pIdxStr, pExtract, pLenStr, pLenArr, pMin, pMax, pIface, aArith, aShift, aCmp, aEq, aEqCk, aEqCells, aPart, bounds, bnd, rLoad, mkAlloc, mkBox, mkMake, rMark, mkS2b, w2, aStore, aFill, cellsV, AV.solid, undefA, resAll, resOne, resVal, pendOk, pastOk, cutCons, List.append_assoc, List.length_append, List.set_cons_zero, List.set_cons_succ, List.singleton_append, List.getElem?_cons_zero, List.getElem?_cons_succ, List.getElem?_nil, implies_true, false_implies, true_implies, Option.bind_some, Option.map_some, Option.bind_none, Option.map_none, Option.isSome_some, if_true, if_false, reduceCtorEq, Nat.reduceAdd, Nat.reduceEqDiff, Nat.reduceMod, Nat.reduceLT, Nat.reduceLeDiff, Nat.reduceSub, Nat.reduceMul, Int.reduceAdd, Int.reduceSub, Int.reduceMul, Int.reduceNeg, Int.reduceLT, Int.reduceLE, Int.reduceToNat, beq_self_eq_true, ↓reduceIte, List.length_nil, List.length_cons, List.take, List.drop, List.nil_append, List.cons_append, List.append_nil, decide_true, decide_false, lqw, c30, r30]
 refine (ans_cut _ _ _).mono ?_
 rintro _ m1 ⟨rfl, rfl⟩
 have hc := cutI_min n 32
 have e1 : (0 : Int) ≤ cutI n 32 ∧ cutI n 32 ≤ cutI n 32 ∧ cutI n 32 * 24 ≤ 1099511627776 ∧ cutI n 32 ≤ 1099511627776 := by omega
 simp -implicitDefEqProofs only [Go.Adm.adm, wantedA, evalAll, AX.eval, AFr.get, AFr.set, AFr.put, AFr.cut, frameOf, AK.loud, pMv, pPick, aPick, pNil, pArith, pShift, pCmp, pEq, pEqAgg, pNot, pNeg, pBnot, pConv, pArrPtr, pSlice, pSliceArr, pFieldAddr, pPart, pIdxAddr, pIdxAddrArr, pIdxArr, pIdxStr, pExtract, pLenStr, pLenArr, pMin, pMax, pIface, aArith, aShift, aCmp, aEq, aEqCk, aEqCells, aPart, bounds, bnd, rLoad, mkAlloc, mkBox, mkMake, rMark, mkS2b, w2, aStore, aFill, cellsV, AV.solid, undefA, resAll, resOne, resVal, pendOk, pastOk, cutCons, List.append_assoc, List.length_append, List.set_cons_zero, List.set_cons_succ, List.singleton_append, List.getElem?_cons_zero, List.getElem?_cons_succ, List.getElem?_nil, implies_true, false_implies, true_implies, Option.bind_some, Option.map_some, Option.bind_none, Option.map_none, Option.isSome_some, if_true, if_false, reduceCtorEq, Nat.reduceAdd, Nat.reduceEqDiff, Nat.reduceMod, Nat.reduceLT, Nat.reduceLeDiff, Nat.reduceSub, Nat.reduceMul, Int.reduceAdd, Int.reduceSub, Int.reduceMul, Int.reduceNeg, Int.reduceLT, Int.reduceLE, Int.reduceToNat, beq_self_eq_true, ↓reduceIte, List.length_nil, List.length_cons, List.take, List.drop, List.nil_append, List.cons_append, List.append_nil, decide_true, decide_false, lqw, if_pos e1]
 refine ⟨_, m1.length, rfl, .app _ _ _, by omega, by omega, ⟨?_, ?_, by omega⟩⟩
 ·simp -implicitDefEqProofs only [Go.Adm.adm, wantedA, evalAll, AX.eval, AFr.get, AFr.set, AFr.put, AFr.cut, frameOf, AK.loud, pMv, pPick, aPick, pNil, pArith, pShift, pCmp, pEq, pEqAgg, pNot, pNeg, pBnot, pConv, pArrPtr, pSlice, pSliceArr, pFieldAddr, pPart, pIdxAddr, pIdxAddrArr, pIdxArr, pIdxStr, pExtract, pLenStr, pLenArr, pMin, pMax, pIface, aArith, aShift, aCmp, aEq, aEqCk, aEqCells, aPart, bounds, bnd, rLoad, mkAlloc, mkBox, mkMake, rMark, mkS2b, w2, aStore, aFill, cellsV, AV.solid, undefA, resAll, resOne, resVal, pendOk, pastOk, cutCons, List.append_assoc, List.length_append, List.set_cons_zero, List.set_cons_succ, List.singleton_append, List.getElem?_cons_zero, List.getElem?_cons_succ, List.getElem?_nil, implies_true, false_implies, true_implies, Option.bind_some, Option.map_some, Option.bind_none, Option.map_none, Option.isSome_some, if_true, if_false, reduceCtorEq, Nat.reduceAdd, Nat.reduceEqDiff, Nat.reduceMod, Nat.reduceLT, Nat.reduceLeDiff, Nat.reduceSub, Nat.reduceMul, Int.reduceAdd, Int.reduceSub, Int.reduceMul, Int.reduceNeg, Int.reduceLT, Int.reduceLE, Int.reduceToNat, beq_self_eq_true, ↓reduceIte, List.length_nil, List.length_cons, List.take, List.drop, List.nil_append, List.cons_append, List.append_nil, decide_true, decide_false, lqw, hc, List.length_replicate]
 ·simp -implicitDefEqProofs only [Go.Adm.adm, wantedA, evalAll, AX.eval, AFr.get, AFr.set, AFr.put, AFr.cut, frameOf, AK.loud, pMv, pPick, aPick, pNil, pArith, pShift, pCmp, pEq, pEqAgg, pNot, pNeg, pBnot, pConv, pArrPtr, pSlice, pSliceArr, pFieldAddr, pPart, pIdxAddr, pIdxAddrArr, pIdxArr, pIdxStr, pExtract, pLenStr, pLenArr, pMin, pMax, pIface, aArith, aShift, aCmp, aEq, aEqCk, aEqCells, aPart, bounds, bnd, rLoad, mkAlloc, mkBox, mkMake, rMark, mkS2b, w2, aStore, aFill, cellsV, AV.solid, undefA, resAll, resOne, resVal, pendOk, pastOk, cutCons, List.append_assoc, List.length_append, List.set_cons_zero, List.set_cons_succ, List.singleton_append, List.getElem?_cons_zero, List.getElem?_cons_succ, List.getElem?_nil, implies_true, false_implies, true_implies, Option.bind_some, Option.map_some, Option.bind_none, Option.map_none, Option.isSome_some, if_true, if_false, reduceCtorEq, Nat.reduceAdd, Nat.reduceEqDiff, Nat.reduceMod, Nat.reduceLT, Nat.reduceLeDiff, Nat.reduceSub, Nat.reduceMul, Int.reduceAdd, Int.reduceSub, Int.reduceMul, Int.reduceNeg, Int.reduceLT, Int.reduceLE, Int.reduceToNat, beq_self_eq_true, ↓reduceIte, List.length_nil, List.length_cons, List.take, List.drop, List.nil_append, List.cons_append, List.append_nil, decide_true, decide_false, lqw, hc]
  rw [← flat_rep]; rfl
theorem ans_ushas {m : Mem} {p b : Nat} {l : List Sg} (h : Tab m p b l) (hl : l.length ≤ 64) (s : Int) : Ans Tryz.prog 106 [.ptr p 0, .int .i64 s] m fun r m' => r = .bool (decide (0 ≤ s ∧ s < l.length)) ∧ m' = m := by
 refine ans_ret mixed ok106 ?_
 simp -implicitDefEqProofs only [Go.Adm.adm, wantedA, evalAll, AX.eval, AFr.get, AFr.set, AFr.put, AFr.cut, frameOf, AK.loud, pMv, pPick, aPick, pNil, pArith, pShift, pCmp, pEq, pEqAgg, pNot, pNeg, pBnot, pConv, pArrPtr, pSlice, pSliceArr, pFieldAddr, pPart, pIdxAddr, pIdxAddrArr, pIdxArr, pIdxStr, pExtract, pLenStr, pLenArr, pMin, pMax, pIface, aArith, aShift, aCmp, aEq, aEqCk, aEqCells, aPart, bounds, bnd, rLoad, mkAlloc, mkBox, mkMake, rMark, mkS2b, w2, aStore, aFill, cellsV, AV.solid, undefA, resAll, resOne, resVal, pendOk, pastOk, cutCons, List.append_assoc, List.length_append, List.set_cons_zero, List.set_cons_succ, List.singleton_append, List.getElem?_cons_zero, List.getElem?_cons_succ, List.getElem?_nil, implies_true, false_implies, true_implies, Option.bind_some, Option.map_some, Option.bind_none, Option.map_none, Option.isSome_some, if_true, if_false, reduceCtorEq, Nat.reduceAdd, Nat.reduceEqDiff, Nat.reduceMod, Nat.reduceLT, Nat.reduceLeDiff, Nat.reduceSub, Nat.reduceMul, Int.reduceAdd, Int.reduceSub, Int.reduceMul, Int.reduceNeg, Int.reduceLT, Int.reduceLE, Int.reduceToNat, beq_self_eq_true, ↓reduceIte, List.length_nil, List.length_cons, List.take, List.drop, List.nil_append, List.cons_append, List.append_nil, decide_true, decide_false, lqw, c106, r106, rowOf_own h.hd]
 rw [wrap_i64 (by omega) (by omega)]
 refine (ans_uswithin _ _ _).mono ?_
 rintro _ m1 ⟨rfl, rfl⟩
 simp -implicitDefEqProofs only [Go.Adm.adm, wantedA, evalAll, AX.eval, AFr.get, AFr.set, AFr.put, AFr.cut, frameOf, AK.loud, pMv, pPick, aPick, pNil, pArith, pShift, pCmp, pEq, pEqAgg, pNot, pNeg, pBnot, pConv, pArrPtr, pSlice, pSliceArr, pFieldAddr, pPart, pIdxAddr, pIdxAddrArr, pIdxArr, pIdxStr, pExtract, pLenStr, pLenArr, pMin, pMax, pIface, aArith, aShift, aCmp, aEq, aEqCk, aEqCells, aPart, bounds, bnd, rLoad, mkAlloc, mkBox, mkMake, rMark, mkS2b, w2, aStore, aFill, cellsV, AV.solid, undefA, resAll, resOne, resVal, pendOk, pastOk, cutCons, List.append_assoc, List.length_append, List.set_cons_zero, List.set_cons_succ, List.singleton_append, List.getElem?_cons_zero, List.getElem?_cons_succ, List.getElem?_nil, implies_true, false_implies, true_implies, Option.bind_some, Option.map_some, Option.bind_none, Option.map_none, Option.isSome_some, if_true, if_false, reduceCtorEq, Nat.reduceAdd, Nat.reduceEqDiff, Nat.reduceMod, Nat.reduceLT, Nat.reduceLeDiff, Nat.reduceSub, Nat.reduceMul, Int.reduceAdd, Int.reduceSub, Int.reduceMul, Int.reduceNeg, Int.reduceLT, Int.reduceLE, Int.reduceToNat, beq_self_eq_true, ↓reduceIte, List.length_nil, List.length_cons, List.take, List.drop, List.nil_append, List.cons_append, List.append_nil, decide_true, decide_false, lqw]
 simp only [show s ≤ (l.length : Int) - 1 ↔ s < l.length by omega]
theorem ans_count {m : Mem} {p b : Nat} {l : List Sg} (h : Tab m p b l) (hl : l.length ≤ 64) (s : Int) : Ans Tryz.prog 88 [.ptr p 0, .int .i64 s] m fun r m' => r = .int .i64 (l.countP (·.st == s)) ∧ Kept [] m m' := by
 refine ans_ret mixed ok88 ?_
 simp -implicitDefEqProofs only [Go.Adm.adm, wantedA, evalAll, AX.eval, AFr.get, AFr.set, AFr.put, AFr.cut, frameOf, AK.loud, pMv, pPick, aPick, pNil, pArith, pShift, pCmp, pEq, pEqAgg, pNot, pNeg, pBnot, pConv, pArrPtr, pSlice, pSliceArr, pFieldAddr, pPart, pIdxAddr, pIdxAddrArr, pIdxArr, pIdxStr, pExtract, pLenStr, pLenArr, pMin, pMax, pIface, aArith, aShift, aCmp, aEq, aEqCk, aEqCells, aPart, bounds, bnd, rLoad, mkAlloc, mkBox, mkMake, rMark, mkS2b, w2, aStore, aFill, cellsV, AV.solid, undefA, resAll, resOne, resVal, pendOk, pastOk, cutCons, List.append_assoc, List.length_append, List.set_cons_zero, List.set_cons_succ, List.singleton_append, List.getElem?_cons_zero, List.getElem?_cons_succ, List.getElem?_nil, implies_true, false_implies, true_implies, Option.bind_some, Option.map_some, Option.bind_none, Option.map_none, Option.isSome_some, if_true, if_false, reduceCtorEq, Nat.reduceAdd, Nat.reduceEqDiff, Nat.reduceMod, Nat.reduceLT, Nat.reduceLeDiff, Nat.reduceSub, Nat.reduceMul, Int.reduceAdd, Int.reduceSub, Int.reduceMul, Int.reduceNeg, Int.reduceLT, Int.reduceLE, Int.reduceToNat, beq_self_eq_true, ↓reduceIte, List.length_nil, List.length_cons, List.take, List.drop, List.nil_append, List.cons_append, List.append_nil, decide_true, decide_false, lqw, c88, r88, rowOf_own h.hd]
 refine LoopW.on (fun i : Nat => [(5, .int .i64 ((l.take i).countP (·.st == s))), (6, .fn (.func 98) [.int .i64 s] []), (14, .sl b 0 l.length l.length 0), (15, .int .i64 l.length), (16, .int .i64 i)]) (fun i => l.length - i) (fun i m' => i ≤ l.length ∧ Kept [] m m') ?_ 0 _ _ rfl ⟨by omega, .refl _ _⟩
 rintro i m' X ⟨hi, hk⟩ hX
 simp -implicitDefEqProofs only [Go.Adm.adm, wantedA, evalAll, AX.eval, AFr.get, AFr.set, AFr.put, AFr.cut, frameOf, AK.loud, pMv, pPick, aPick, pNil, pArith, pShift, pCmp, pEq, pEqAgg, pNot, pNeg, pBnot, pConv, pArrPtr, pSlice, pSliceArr, pFieldAddr, pPart, pIdxAddr, pIdxAddrArr, pIdxArr, pIdxStr, pExtract, pLenStr, pLenArr, pMin, pMax, pIface, aArith, aShift, aCmp, aEq, aEqCk, aEqCells, aPart, bounds, bnd, rLoad, mkAlloc, mkBox, mkMake, rMark, mkS2b, w2, aStore, aFill, cellsV, AV.solid, undefA, resAll, resOne, resVal, pendOk, pastOk, cutCons, List.append_assoc, List.length_append, List.set_cons_zero, List.set_cons_succ, List.singleton_append, List.getElem?_cons_zero, List.getElem?_cons_succ, List.getElem?_nil, implies_true, false_implies, true_implies, Option.bind_some, Option.map_some, Option.bind_none, Option.map_none, Option.isSome_some, if_true, if_false, reduceCtorEq, Nat.reduceAdd, Nat.reduceEqDiff, Nat.reduceMod, Nat.reduceLT, Nat.reduceLeDiff, Nat.reduceSub, Nat.reduceMul, Int.reduceAdd, Int.reduceSub, Int.reduceMul, Int.reduceNeg, Int.reduceLT, Int.reduceLE, Int.reduceToNat, beq_self_eq_true, ↓reduceIte, List.length_nil, List.length_cons, List.take, List.drop, List.nil_append, List.cons_append, List.append_nil, decide_true, decide_false, lqw]
 refine condS_d (fun h1 => ?_) (fun h1 => ?_)
 ·have hi' : i < l.length := by omega
  have e1 : (0 : Int) ≤ (i : Int) ∧ (i : Int) < (l.length : Int) := ⟨by omega, h1⟩
  have hc : (l.take i).countP (·.st == s) ≤ 64 := Nat.le_trans List.countP_le_length (by simp; omega)
  have hs : (l.take (i + 1)).countP (·.st == s) = (l.take i).countP (·.st == s) + if l[i].st == s then 1 else 0 := by
   rw [← List.take_append_getElem hi', List.countP_append]; simp [List.countP_cons, List.countP_nil]
  simp -implicitDefEqProofs only [Go.Adm.adm, wantedA, evalAll, AX.eval, AFr.get, AFr.set, AFr.put, AFr.cut, frameOf, AK.loud, pMv, pPick, aPick, pNil, pArith, pShift, pCmp, pEq, pEqAgg, pNot, pNeg, pBnot, pConv, pArrPtr, pSlice, pSliceArr, pFieldAddr, pPart, pIdxAddr, pIdxAddrArr, pIdxArr, pIdxStr, pExtract, pLenStr, pLenArr, pMin, pMax, pIface, aArith, aShift, aCmp, aEq, aEqCk, aEqCells, aPart, bounds, bnd, rLoad, mkAlloc, mkBox, mkMake, rMark, mkS2b, w2, aStore, aFill, cellsV, AV.solid, undefA, resAll, resOne, resVal, pendOk, pastOk, cutCons, List.append_assoc, List.length_append, List.set_cons_zero, List.set_cons_succ, List.singleton_append, List.getElem?_cons_zero, List.getElem?_cons_succ, List.getElem?_nil, implies_true, false_implies, true_implies, Option.bind_some, Option.map_some, Option.bind_none, Option.map_none, Option.isSome_some, if_true, if_false, reduceCtorEq, Nat.reduceAdd, Nat.reduceEqDiff, Nat.reduceMod, Nat.reduceLT, Nat.reduceLeDiff, Nat.reduceSub, Nat.reduceMul, Int.reduceAdd, Int.reduceSub, Int.reduceMul, Int.reduceNeg, Int.reduceLT, Int.reduceLE, Int.reduceToNat, beq_self_eq_true, ↓reduceIte, List.length_nil, List.length_cons, List.take, List.drop, List.nil_append, List.cons_append, List.append_nil, decide_true, decide_false, lqw, hk.row0 (rowOf_own h.rows), e1, flat_if l i hi', Int.toNat_natCast, Sg.cells]
  refine (ans_of s l[i] _).mono ?_
  rintro _ m1 ⟨rfl, hk1⟩
  simp -implicitDefEqProofs only [Go.Adm.adm, wantedA, evalAll, AX.eval, AFr.get, AFr.set, AFr.put, AFr.cut, frameOf, AK.loud, pMv, pPick, aPick, pNil, pArith, pShift, pCmp, pEq, pEqAgg, pNot, pNeg, pBnot, pConv, pArrPtr, pSlice, pSliceArr, pFieldAddr, pPart, pIdxAddr, pIdxAddrArr, pIdxArr, pIdxStr, pExtract, pLenStr, pLenArr, pMin, pMax, pIface, aArith, aShift, aCmp, aEq, aEqCk, aEqCells, aPart, bounds, bnd, rLoad, mkAlloc, mkBox, mkMake, rMark, mkS2b, w2, aStore, aFill, cellsV, AV.solid, undefA, resAll, resOne, resVal, pendOk, pastOk, cutCons, List.append_assoc, List.length_append, List.set_cons_zero, List.set_cons_succ, List.singleton_append, List.getElem?_cons_zero, List.getElem?_cons_succ, List.getElem?_nil, implies_true, false_implies, true_implies, Option.bind_some, Option.map_some, Option.bind_none, Option.map_none, Option.isSome_some, if_true, if_false, reduceCtorEq, Nat.reduceAdd, Nat.reduceEqDiff, Nat.reduceMod, Nat.reduceLT, Nat.reduceLeDiff, Nat.reduceSub, Nat.reduceMul, Int.reduceAdd, Int.reduceSub, Int.reduceMul, Int.reduceNeg, Int.reduceLT, Int.reduceLE, Int.reduceToNat, beq_self_eq_true, ↓reduceIte, List.length_nil, List.length_cons, List.take, List.drop, List.nil_append, List.cons_append, List.append_nil, decide_true, decide_false, lqw]
  refine condS_i (fun h2 => ?_) (fun h2 => ?_)
  ·simp -implicitDefEqProofs only [Go.Adm.adm, wantedA, evalAll, AX.eval, AFr.get, AFr.set, AFr.put, AFr.cut, frameOf, AK.loud, pMv, pPick, aPick, pNil, pArith, pShift, pCmp, pEq, pEqAgg, pNot, pNeg, pBnot, pConv, pArrPtr, pSlice, pSliceArr, pFieldAddr, pPart, pIdxAddr, pIdxAddrArr, pIdxArr, pIdxStr, pExtract, pLenStr, pLenArr, pMin, pMax, pIface, aArith, aShift, aCmp, aEq, aEqCk, aEqCells, aPart, bounds, bnd, rLoad, mkAlloc, mkBox, mkMake, rMark, mkS2b, w2, aStore, aFill, cellsV, AV.solid, undefA, resAll, resOne, resVal, pendOk, pastOk, cutCons, List.append_assoc, List.length_append, List.set_cons_zero, List.set_cons_succ, List.singleton_append, List.getElem?_cons_zero, List.getElem?_cons_succ, List.getElem?_nil, implies_true, false_implies, true_implies, Option.bind_some, Option.map_some, Option.bind_none, Option.map_none, Option.isSome_some, if_true, if_false, reduceCtorEq, Nat.reduceAdd, Nat.reduceEqDiff, Nat.reduceMod, Nat.reduceLT, Nat.reduceLeDiff, Nat.reduceSub, Nat.reduceMul, Int.reduceAdd, Int.reduceSub, Int.reduceMul, Int.reduceNeg, Int.reduceLT, Int.reduceLE, Int.reduceToNat, beq_self_eq_true, ↓reduceIte, List.length_nil, List.length_cons, List.take, List.drop, List.nil_append, List.cons_append, List.append_nil, decide_true, decide_false, lqw]
   rw [wrap_i64 (by omega) (by omega), wrap_i64 (by omega) (by omega)]
   refine hX (i + 1) _ _ ?_ (by omega) ⟨by omega, hk.trans ((Kept.app _ _ _).trans hk1)⟩
   rw [hs, h2]; rfl
  ·simp -implicitDefEqProofs only [Go.Adm.adm, wantedA, evalAll, AX.eval, AFr.get, AFr.set, AFr.put, AFr.cut, frameOf, AK.loud, pMv, pPick, aPick, pNil, pArith, pShift, pCmp, pEq, pEqAgg, pNot, pNeg, pBnot, pConv, pArrPtr, pSlice, pSliceArr, pFieldAddr, pPart, pIdxAddr, pIdxAddrArr, pIdxArr, pIdxStr, pExtract, pLenStr, pLenArr, pMin, pMax, pIface, aArith, aShift, aCmp, aEq, aEqCk, aEqCells, aPart, bounds, bnd, rLoad, mkAlloc, mkBox, mkMake, rMark, mkS2b, w2, aStore, aFill, cellsV, AV.solid, undefA, resAll, resOne, resVal, pendOk, pastOk, cutCons, List.append_assoc, List.length_append, List.set_cons_zero, List.set_cons_succ, List.singleton_append, List.getElem?_cons_zero, List.getElem?_cons_succ, List.getElem?_nil, implies_true, false_implies, true_implies, Option.bind_some, Option.map_some, Option.bind_none, Option.map_none, Option.isSome_some, if_true, if_false, reduceCtorEq, Nat.reduceAdd, Nat.reduceEqDiff, Nat.reduceMod, Nat.reduceLT, Nat.reduceLeDiff, Nat.reduceSub, Nat.reduceMul, Int.reduceAdd, Int.reduceSub, Int.reduceMul, Int.reduceNeg, Int.reduceLT, Int.reduceLE, Int.reduceToNat, beq_self_eq_true, ↓reduceIte, List.length_nil, List.length_cons, List.take, List.drop, List.nil_append, List.cons_append, List.append_nil, decide_true, decide_false, lqw]
   rw [wrap_i64 (by omega) (by omega)]
   refine hX (i + 1) _ _ ?_ (by omega) ⟨by omega, hk.trans ((Kept.app _ _ _).trans hk1)⟩
   rw [hs, h2]; rfl
 ·simp -implicitDefEqProofs only [Go.Adm.adm, wantedA, evalAll, AX.eval, AFr.get, AFr.set, AFr.put, AFr.cut, frameOf, AK.loud, pMv, pPick, aPick, pNil, pArith, pShift, pCmp, pEq, pEqAgg, pNot, pNeg, pBnot, pConv, pArrPtr, pSlice, pSliceArr, pFieldAddr, pPart, pIdxAddr, pIdxAddrArr, pIdxArr, pIdxStr, pExtract, pLenStr, pLenArr, pMin, pMax, pIface, aArith, aShift, aCmp, aEq, aEqCk, aEqCells, aPart, bounds, bnd, rLoad, mkAlloc, mkBox, mkMake, rMark, mkS2b, w2, aStore, aFill, cellsV, AV.solid, undefA, resAll, resOne, resVal, pendOk, pastOk, cutCons, List.append_assoc, List.length_append, List.set_cons_zero, List.set_cons_succ, List.singleton_append, List.getElem?_cons_zero, List.getElem?_cons_succ, List.getElem?_nil, implies_true, false_implies, true_implies, Option.bind_some, Option.map_some, Option.bind_none, Option.map_none, Option.isSome_some, if_true, if_false, reduceCtorEq, Nat.reduceAdd, Nat.reduceEqDiff, Nat.reduceMod, Nat.reduceLT, Nat.reduceLeDiff, Nat.reduceSub, Nat.reduceMul, Int.reduceAdd, Int.reduceSub, Int.reduceMul, Int.reduceNeg, Int.reduceLT, Int.reduceLE, Int.reduceToNat, beq_self_eq_true, ↓reduceIte, List.length_nil, List.length_cons, List.take, List.drop, List.nil_append, List.cons_append, List.append_nil, decide_true, decide_false, lqw]
  refine ⟨?_, hk⟩
  rw [show i = l.length by omega, List.take_length]
structure Put (m m' : Mem) (p b : Nat) (l' : List Sg) : Prop where
 kept : Kept [b] m m'
 tab : Tab m' p b l'
theorem Tab.put {m : Mem} {p b : Nat} {l l' : List Sg} (h : Tab m p b l) (hl : l'.length = l.length) : Put m (m.set b (.row (flat l') false)) p b l' :=
 ⟨.set1 _ _ _, ⟨by rw [own_set_ne (Ne.symm h.ne), h.hd, hl], own_set (own_lt h.rows) _, h.ne⟩⟩
end Go.Proofs.YtehnkcnjmfbjpaaGreat
end
section
namespace Go.Proofs.YtehnkcnjmfbjpaaGreat
open Go Go.Adm
set_option linter.unusedSimpArgs false
set_option maxRecDepth 100000
theorem idxOf_found {s : Int} {l : List Sg} (h : 0 ≤ idxOf s l) : ∃ x, l[(idxOf s l).toNat]? = some x ∧ x.st = s ∧ (((idxOf s l).toNat : Nat) : Int) = idxOf s l ∧ idxOf s l < l.length := by
 unfold idxOf at *
 cases hf : l.findIdx? (·.st == s) with
 | none => rw [hf] at h; simp at h
 | some i =>
  obtain ⟨hi, h1, _⟩ := List.findIdx?_eq_some_iff_getElem.mp hf
  exact ⟨l[i], by simp [hi], by simpa using h1, by simp, by simp; omega⟩
def addM (seg n now : Int) (l : List Sg) : Int × List Sg :=
 if 0 ≤ seg ∧ seg < l.length then
  match l[seg.toNat]? with
  | some x => if n < -x.lv then (7, l) else if n > 64 - x.lv then (7, l) else (0, l.set seg.toNat (if n > 0 then ⟨x.st, x.lv + n, cutI now 1099511627776⟩ else ⟨x.st, x.lv + n, x.ag⟩))
  | none => (7, l)
 else (7, l)
theorem ans_add {m : Mem} {p b : Nat} {l : List Sg} (h : Tab m p b l) (hl : l.length ≤ 64) (hv : ∀ x ∈ l, 0 ≤ x.lv ∧ x.lv ≤ 64) (seg n now : Int) : Ans Tryz.prog 78 [.ptr p 0, .int .i64 seg, .int .i64 n, .int .i64 now] m fun r m' => r = .int .i64 (addM seg n now l).1 ∧ Put m m' p b (addM seg n now l).2 := by
 refine ans_ret mixed ok78 ?_
 simp -implicitDefEqProofs only [Go.Adm.adm, wantedA, evalAll, AX.eval, AFr.get, AFr.set, AFr.put, AFr.cut, frameOf, AK.loud, pMv, pPick, aPick, pNil, pArith, pShift, pCmp, pEq, pEqAgg, pNot, pNeg, pBnot, pConv, pArrPtr, pSlice, pSliceArr, pFieldAddr, pPart, pIdxAddr, pIdxAddrArr, pIdxArr, pIdxStr, pExtract, pLenStr, pLenArr, pMin, pMax, pIface, aArith, aShift, aCmp, aEq, aEqCk, aEqCells, aPart, bounds, bnd, rLoad, mkAlloc, mkBox, mkMake, rMark, mkS2b, w2, aStore, aFill, cellsV, AV.solid, undefA, resAll, resOne, resVal, pendOk, pastOk, cutCons, List.append_assoc, List.length_append, List.set_cons_zero, List.set_cons_succ, List.singleton_append, List.getElem?_cons_zero, List.getElem?_cons_succ, List.getElem?_nil, implies_true, false_implies, true_implies, Option.bind_some, Option.map_some, Option.bind_none, Option.map_none, Option.isSome_some, if_true, if_false, reduceCtorEq, Nat.reduceAdd, Nat.reduceEqDiff, Nat.reduceMod, Nat.reduceLT, Nat.reduceLeDiff, Nat.reduceSub, Nat.reduceMul, Int.reduceAdd, Int.reduceSub, Int.reduceMul, Int.reduceNeg, Int.reduceLT, Int.reduceLE, Int.reduceToNat, beq_self_eq_true, ↓reduceIte, List.length_nil, List.length_cons, List.take, List.drop, List.nil_append, List.cons_append, List.append_nil, decide_true, decide_false, lqw, c78, r78]
 refine (ans_ushas h hl seg).mono ?_
 rintro _ m1 ⟨rfl, rfl⟩
 by_cases h1 : 0 ≤ seg ∧ seg < l.length
 ·obtain ⟨x, hx⟩ : ∃ x, l[seg.toNat]? = some x := ⟨_, List.getElem?_eq_getElem (by omega)⟩
  simp only [addM, if_pos h1, hx]
  have hxv := hv x (List.mem_of_getElem? hx)
  have v1 : IntKind.i64.wrap (0 - x.lv) = -x.lv := by rw [wrap_i64 (by omega) (by omega)]; omega
  have v2 : IntKind.i64.wrap (64 - x.lv) = 64 - x.lv := by rw [wrap_i64 (by omega) (by omega)]
  by_cases h2 : n < -x.lv
  ·simp -implicitDefEqProofs only [Go.Adm.adm, wantedA, evalAll, AX.eval, AFr.get, AFr.set, AFr.put, AFr.cut, frameOf, AK.loud, pMv, pPick, aPick, pNil, pArith, pShift, pCmp, pEq, pEqAgg, pNot, pNeg, pBnot, pConv, pArrPtr, pSlice, pSliceArr, pFieldAddr, pPart, pIdxAddr, pIdxAddrArr, pIdxArr, pIdxStr, pExtract, pLenStr, pLenArr, pMin, pMax, pIface, aArith, aShift, aCmp, aEq, aEqCk, aEqCells, aPart, bounds, bnd, rLoad, mkAlloc, mkBox, mkMake, rMark, mkS2b, w2, aStore, aFill, cellsV, AV.solid, undefA, resAll, resOne, resVal, pendOk, pastOk, cutCons, List.append_assoc, List.length_append, List.set_cons_zero, List.set_cons_succ, List.singleton_append, List.getElem?_cons_zero, List.getElem?_cons_succ, List.getElem?_nil, implies_true, false_implies, true_implies, Option.bind_some, Option.map_some, Option.bind_none, Option.map_none, Option.isSome_some, if_true, if_false, reduceCtorEq, Nat.reduceAdd, Nat.reduceEqDiff, Nat.reduceMod, Nat.reduceLT, Nat.reduceLeDiff, Nat.reduceSub, Nat.reduceMul, Int.reduceAdd, Int.reduceSub, Int.reduceMul, Int.reduceNeg, Int.reduceLT, Int.reduceLE, Int.reduceToNat, beq_self_eq_true, ↓reduceIte, List.length_nil, List.length_cons, List.take, List.drop, List.nil_append, List.cons_append, List.append_nil, decide_true, decide_false, lqw, h1, h2, rowOf_own h.hd, rowOf_own h.rows, flat_st hx, flat_lv hx, v1]
   exact ⟨.refl _ _, h⟩
  ·by_cases h3 : n > 64 - x.lv
   ·simp -implicitDefEqProofs only [Go.Adm.adm, wantedA, evalAll, AX.eval, AFr.get, AFr.set, AFr.put, AFr.cut, frameOf, AK.loud, pMv, pPick, aPick, pNil, pArith, pShift, pCmp, pEq, pEqAgg, pNot, pNeg, pBnot, pConv, pArrPtr, pSlice, pSliceArr, pFieldAddr, pPart, pIdxAddr, pIdxAddrArr, pIdxArr, pIdxStr, pExtract, pLenStr, pLenArr, pMin, pMax, pIface, aArith, aShift, aCmp, aEq, aEqCk, aEqCells, aPart, bounds, bnd, rLoad, mkAlloc, mkBox, mkMake, rMark, mkS2b, w2, aStore, aFill, cellsV, AV.solid, undefA, resAll, resOne, resVal, pendOk, pastOk, cutCons, List.append_assoc, List.length_append, List.set_cons_zero, List.set_cons_succ, List.singleton_append, List.getElem?_cons_zero, List.getElem?_cons_succ, List.getElem?_nil, implies_true, false_implies, true_implies, Option.bind_some, Option.map_some, Option.bind_none, Option.map_none, Option.isSome_some, if_true, if_false, reduceCtorEq, Nat.reduceAdd, Nat.reduceEqDiff, Nat.reduceMod, Nat.reduceLT, Nat.reduceLeDiff, Nat.reduceSub, Nat.reduceMul, Int.reduceAdd, Int.reduceSub, Int.reduceMul, Int.reduceNeg, Int.reduceLT, Int.reduceLE, Int.reduceToNat, beq_self_eq_true, ↓reduceIte, List.length_nil, List.length_cons, List.take, List.drop, List.nil_append, List.cons_append, List.append_nil, decide_true, decide_false, lqw, h1, h2, h3, rowOf_own h.hd, rowOf_own h.rows, flat_st hx, flat_lv hx, v1, v2]
    exact ⟨.refl _ _, h⟩
   ·have hle := flat_le hx (j := 2) (by omega)
    have v3 : IntKind.i64.wrap (x.lv + n) = x.lv + n := by rw [wrap_i64 (by omega) (by omega)]
    have hst := set_lv hx (x.lv + n)
    have hp := h.put (l' := l.set seg.toNat ⟨x.st, x.lv + n, x.ag⟩) (by simp)
    have hx2 : (l.set seg.toNat ⟨x.st, x.lv + n, x.ag⟩)[seg.toNat]? = some ⟨x.st, x.lv + n, x.ag⟩ := by
     rw [List.getElem?_set_self (by omega)]
    by_cases h4 : n > 0
    ·have hst2 := set_ag hx2 (cutI now 1099511627776)
     rw [List.set_set] at hst2
     have hle2 := flat_le hx2 (j := 3) (by omega)
     have h1' : 0 ≤ seg ∧ seg < ((l.set seg.toNat ⟨x.st, x.lv + n, x.ag⟩).length : Nat) := by simpa using h1
     have hp2 := hp.tab.put (l' := l.set seg.toNat ⟨x.st, x.lv + n, cutI now 1099511627776⟩) (by simp)
     simp -implicitDefEqProofs only [Go.Adm.adm, wantedA, evalAll, AX.eval, AFr.get, AFr.set, AFr.put, AFr.cut, frameOf, AK.loud, pMv, pPick, aPick, pNil, pArith, pShift, pCmp, pEq, pEqAgg, pNot, pNeg, pBnot, pConv, pArrPtr, pSlice, pSliceArr, pFieldAddr, pPart, pIdxAddr, pIdxAddrArr, pIdxArr, pIdxStr, pExtract, pLenStr, pLenArr, pMin, pMax, pIface, aArith, aShift, aCmp, aEq, aEqCk, aEqCells, aPart, bounds, bnd, rLoad, mkAlloc, mkBox, mkMake, rMark, mkS2b, w2, aStore, aFill, cellsV, AV.solid, undefA, resAll, resOne, resVal, pendOk, pastOk, cutCons, List.append_assoc, List.length_append, List.set_cons_zero, List.set_cons_succ, List.singleton_append, List.getElem?_cons_zero, List.getElem?_cons_succ, List.getElem?_nil, implies_true, false_implies, true_implies, Option.bind_some, Option.map_some, Option.bind_none, Option.map_none, Option.isSome_some, if_true, if_false, reduceCtorEq, Nat.reduceAdd, Nat.reduceEqDiff, Nat.reduceMod, Nat.reduceLT, Nat.reduceLeDiff, Nat.reduceSub, Nat.reduceMul, Int.reduceAdd, Int.reduceSub, Int.reduceMul, Int.reduceNeg, Int.reduceLT, Int.reduceLE, Int.reduceToNat, beq_self_eq_true, ↓reduceIte, List.length_nil, List.length_cons, List.take, List.drop, List.nil_append, List.cons_append, List.append_nil, decide_true, decide_false, lqw, h1, h2, h3, h4, rowOf_own h.hd, rowOf_own h.rows, h.rows, flat_st hx, flat_lv hx, v1, v2, v3, hle, hst, rowOf_own hp.tab.hd, h1']
     refine (ans_cut _ _ _).mono ?_
     rintro _ m1 ⟨rfl, rfl⟩
     simp -implicitDefEqProofs only [Go.Adm.adm, wantedA, evalAll, AX.eval, AFr.get, AFr.set, AFr.put, AFr.cut, frameOf, AK.loud, pMv, pPick, aPick, pNil, pArith, pShift, pCmp, pEq, pEqAgg, pNot, pNeg, pBnot, pConv, pArrPtr, pSlice, pSliceArr, pFieldAddr, pPart, pIdxAddr, pIdxAddrArr, pIdxArr, pIdxStr, pExtract, pLenStr, pLenArr, pMin, pMax, pIface, aArith, aShift, aCmp, aEq, aEqCk, aEqCells, aPart, bounds, bnd, rLoad, mkAlloc, mkBox, mkMake, rMark, mkS2b, w2, aStore, aFill, cellsV, AV.solid, undefA, resAll, resOne, resVal, pendOk, pastOk, cutCons, List.append_assoc, List.length_append, List.set_cons_zero, List.set_cons_succ, List.singleton_append, List.getElem?_cons_zero, List.getElem?_cons_succ, List.getElem?_nil, implies_true, false_implies, true_implies, Option.bind_some, Option.map_some, Option.bind_none, Option.map_none, Option.isSome_some, if_true, if_false, reduceCtorEq, Nat.reduceAdd, Nat.reduceEqDiff, Nat.reduceMod, Nat.reduceLT, Nat.reduceLeDiff, Nat.reduceSub, Nat.reduceMul, Int.reduceAdd, Int.reduceSub, Int.reduceMul, Int.reduceNeg, Int.reduceLT, Int.reduceLE, Int.reduceToNat, beq_self_eq_true, ↓reduceIte, List.length_nil, List.length_cons, List.take, List.drop, List.nil_append, List.cons_append, List.append_nil, decide_true, decide_false, lqw, h1', rowOf_own hp.tab.hd, hp.tab.rows, hst2, hle2, rowOf_own hp2.tab.hd]
     exact ⟨hp.kept.trans hp2.kept, hp2.tab⟩
    ·simp -implicitDefEqProofs only [Go.Adm.adm, wantedA, evalAll, AX.eval, AFr.get, AFr.set, AFr.put, AFr.cut, frameOf, AK.loud, pMv, pPick, aPick, pNil, pArith, pShift, pCmp, pEq, pEqAgg, pNot, pNeg, pBnot, pConv, pArrPtr, pSlice, pSliceArr, pFieldAddr, pPart, pIdxAddr, pIdxAddrArr, pIdxArr, pIdxStr, pExtract, pLenStr, pLenArr, pMin, pMax, pIface, aArith, aShift, aCmp, aEq, aEqCk, aEqCells, aPart, bounds, bnd, rLoad, mkAlloc, mkBox, mkMake, rMark, mkS2b, w2, aStore, aFill, cellsV, AV.solid, undefA, resAll, resOne, resVal, pendOk, pastOk, cutCons, List.append_assoc, List.length_append, List.set_cons_zero, List.set_cons_succ, List.singleton_append, List.getElem?_cons_zero, List.getElem?_cons_succ, List.getElem?_nil, implies_true, false_implies, true_implies, Option.bind_some, Option.map_some, Option.bind_none, Option.map_none, Option.isSome_some, if_true, if_false, reduceCtorEq, Nat.reduceAdd, Nat.reduceEqDiff, Nat.reduceMod, Nat.reduceLT, Nat.reduceLeDiff, Nat.reduceSub, Nat.reduceMul, Int.reduceAdd, Int.reduceSub, Int.reduceMul, Int.reduceNeg, Int.reduceLT, Int.reduceLE, Int.reduceToNat, beq_self_eq_true, ↓reduceIte, List.length_nil, List.length_cons, List.take, List.drop, List.nil_append, List.cons_append, List.append_nil, decide_true, decide_false, lqw, h1, h2, h3, h4, rowOf_own h.hd, rowOf_own h.rows, h.rows, flat_st hx, flat_lv hx, v1, v2, v3, hle, hst]
     exact hp
 ·simp only [addM, if_neg h1]
  simp -implicitDefEqProofs only [Go.Adm.adm, wantedA, evalAll, AX.eval, AFr.get, AFr.set, AFr.put, AFr.cut, frameOf, AK.loud, pMv, pPick, aPick, pNil, pArith, pShift, pCmp, pEq, pEqAgg, pNot, pNeg, pBnot, pConv, pArrPtr, pSlice, pSliceArr, pFieldAddr, pPart, pIdxAddr, pIdxAddrArr, pIdxArr, pIdxStr, pExtract, pLenStr, pLenArr, pMin, pMax, pIface, aArith, aShift, aCmp, aEq, aEqCk, aEqCells, aPart, bounds, bnd, rLoad, mkAlloc, mkBox, mkMake, rMark, mkS2b, w2, aStore, aFill, cellsV, AV.solid, undefA, resAll, resOne, resVal, pendOk, pastOk, cutCons, List.append_assoc, List.length_append, List.set_cons_zero, List.set_cons_succ, List.singleton_append, List.getElem?_cons_zero, List.getElem?_cons_succ, List.getElem?_nil, implies_true, false_implies, true_implies, Option.bind_some, Option.map_some, Option.bind_none, Option.map_none, Option.isSome_some, if_true, if_false, reduceCtorEq, Nat.reduceAdd, Nat.reduceEqDiff, Nat.reduceMod, Nat.reduceLT, Nat.reduceLeDiff, Nat.reduceSub, Nat.reduceMul, Int.reduceAdd, Int.reduceSub, Int.reduceMul, Int.reduceNeg, Int.reduceLT, Int.reduceLE, Int.reduceToNat, beq_self_eq_true, ↓reduceIte, List.length_nil, List.length_cons, List.take, List.drop, List.nil_append, List.cons_append, List.append_nil, decide_true, decide_false, lqw, h1]
  exact ⟨.refl _ _, h⟩
def takeM (now : Int) (l : List Sg) : Int × Bool × List Sg :=
 if 0 ≤ idxOf 0 l then
  (idxOf 0 l, true, (if 0 ≤ idxOf 1 l then (match l[(idxOf 1 l).toNat]? with | some x => l.set (idxOf 1 l).toNat ⟨2, x.lv, x.ag⟩ | none => l) else l).set (idxOf 0 l).toNat ⟨1, 0, cutI now 1099511627776⟩)
 else (0, false, l)
theorem ans_take {m : Mem} {p b : Nat} {l : List Sg} (h : Tab m p b l) (hl : l.length ≤ 64) (now : Int) : Ans Tryz.prog 31 [.ptr p 0, .int .i64 now] m fun r m' => r = .tup [.int .i64 (takeM now l).1, .bool (takeM now l).2.1] ∧ Put m m' p b (takeM now l).2.2 := by
 refine ans_ret mixed ok31 ?_
 simp -implicitDefEqProofs only [Go.Adm.adm, wantedA, evalAll, AX.eval, AFr.get, AFr.set, AFr.put, AFr.cut, frameOf, AK.loud, pMv, pPick, aPick, pNil, pArith, pShift, pCmp, pEq, pEqAgg, pNot, pNeg, pBnot, pConv, pArrPtr, pSlice, pSliceArr, pFieldAddr, pPart, pIdxAddr, pIdxAddrArr, pIdxArr, pIdxStr, pExtract, pLenStr, pLenArr, pMin, pMax, pIface, aArith, aShift, aCmp, aEq, aEqCk, aEqCells, aPart, bounds, bnd, rLoad, mkAlloc, mkBox, mkMake, rMark, mkS2b, w2, aStore, aFill, cellsV, AV.solid, undefA, resAll, resOne, resVal, pendOk, pastOk, cutCons, List.append_assoc, List.length_append, List.set_cons_zero, List.set_cons_succ, List.singleton_append, List.getElem?_cons_zero, List.getElem?_cons_succ, List.getElem?_nil, implies_true, false_implies, true_implies, Option.bind_some, Option.map_some, Option.bind_none, Option.map_none, Option.isSome_some, if_true, if_false, reduceCtorEq, Nat.reduceAdd, Nat.reduceEqDiff, Nat.reduceMod, Nat.reduceLT, Nat.reduceLeDiff, Nat.reduceSub, Nat.reduceMul, Int.reduceAdd, Int.reduceSub, Int.reduceMul, Int.reduceNeg, Int.reduceLT, Int.reduceLE, Int.reduceToNat, beq_self_eq_true, ↓reduceIte, List.length_nil, List.length_cons, List.take, List.drop, List.nil_append, List.cons_append, List.append_nil, decide_true, decide_false, lqw, c31, r31]
 refine (ans_first h hl 0).mono ?_
 rintro _ m1 ⟨rfl, hk⟩
 have h' := h.kept0 hk
 by_cases h1 : 0 ≤ idxOf 0 l
 ·have h1' : ¬ idxOf 0 l < 0 := by omega
  obtain ⟨x, hx, _, e1, e2⟩ := idxOf_found h1
  simp only [takeM, if_pos h1]
  simp -implicitDefEqProofs only [Go.Adm.adm, wantedA, evalAll, AX.eval, AFr.get, AFr.set, AFr.put, AFr.cut, frameOf, AK.loud, pMv, pPick, aPick, pNil, pArith, pShift, pCmp, pEq, pEqAgg, pNot, pNeg, pBnot, pConv, pArrPtr, pSlice, pSliceArr, pFieldAddr, pPart, pIdxAddr, pIdxAddrArr, pIdxArr, pIdxStr, pExtract, pLenStr, pLenArr, pMin, pMax, pIface, aArith, aShift, aCmp, aEq, aEqCk, aEqCells, aPart, bounds, bnd, rLoad, mkAlloc, mkBox, mkMake, rMark, mkS2b, w2, aStore, aFill, cellsV, AV.solid, undefA, resAll, resOne, resVal, pendOk, pastOk, cutCons, List.append_assoc, List.length_append, List.set_cons_zero, List.set_cons_succ, List.singleton_append, List.getElem?_cons_zero, List.getElem?_cons_succ, List.getElem?_nil, implies_true, false_implies, true_implies, Option.bind_some, Option.map_some, Option.bind_none, Option.map_none, Option.isSome_some, if_true, if_false, reduceCtorEq, Nat.reduceAdd, Nat.reduceEqDiff, Nat.reduceMod, Nat.reduceLT, Nat.reduceLeDiff, Nat.reduceSub, Nat.reduceMul, Int.reduceAdd, Int.reduceSub, Int.reduceMul, Int.reduceNeg, Int.reduceLT, Int.reduceLE, Int.reduceToNat, beq_self_eq_true, ↓reduceIte, List.length_nil, List.length_cons, List.take, List.drop, List.nil_append, List.cons_append, List.append_nil, decide_true, decide_false, lqw, h1']
  refine (ans_open h' hl).mono ?_
  rintro _ m2 ⟨rfl, hk2⟩
  have h'' := h'.kept0 hk2
  have hlast : ∀ (m3 : Mem) (l2 : List Sg), l2.length = l.length → Put m2 m3 p b l2 → Put m (m3.set b (.row (flat (l2.set (idxOf 0 l).toNat ⟨1, 0, cutI now 1099511627776⟩)) false)) p b (l2.set (idxOf 0 l).toNat ⟨1, 0, cutI now 1099511627776⟩) := by
   intro m3 l2 hl2 hp
   exact ⟨((hk.trans hk2).any.trans hp.kept).trans (.set1 _ _ _), (hp.tab.put (by simp)).tab⟩
  have hb1 : 0 ≤ idxOf 0 l ∧ idxOf 0 l < l.length := ⟨h1, e2⟩
  by_cases h2 : 0 ≤ idxOf 1 l
  ·obtain ⟨y, hy, _, f1, f2⟩ := idxOf_found h2
   have hb2 : 0 ≤ idxOf 1 l ∧ idxOf 1 l < l.length := ⟨h2, f2⟩
   have hle := flat_le hy (j := 1) (by omega)
   have hst := set_st hy 2
   have hp := h''.put (l' := l.set (idxOf 1 l).toNat ⟨2, y.lv, y.ag⟩) (by simp)
   obtain ⟨z, hz⟩ : ∃ z, (l.set (idxOf 1 l).toNat ⟨2, y.lv, y.ag⟩)[(idxOf 0 l).toNat]? = some z := ⟨_, List.getElem?_eq_getElem (by simp; omega)⟩
   have hle2 := flat_le hz (j := 3) (by omega)
   have hall := set_all hz 1 0 (cutI now 1099511627776)
   have hfin := hlast _ _ (by simp) hp
   have hb1' : 0 ≤ idxOf 0 l ∧ idxOf 0 l < ((l.set (idxOf 1 l).toNat ⟨2, y.lv, y.ag⟩).length : Nat) := by simpa using hb1
   simp -implicitDefEqProofs only [Go.Adm.adm, wantedA, evalAll, AX.eval, AFr.get, AFr.set, AFr.put, AFr.cut, frameOf, AK.loud, pMv, pPick, aPick, pNil, pArith, pShift, pCmp, pEq, pEqAgg, pNot, pNeg, pBnot, pConv, pArrPtr, pSlice, pSliceArr, pFieldAddr, pPart, pIdxAddr, pIdxAddrArr, pIdxArr, pIdxStr, pExtract, pLenStr, pLenArr, pMin, pMax, pIface, aArith, aShift, aCmp, aEq, aEqCk, aEqCells, aPart, bounds, bnd, rLoad, mkAlloc, mkBox, mkMake, rMark, mkS2b, w2, aStore, aFill, cellsV, AV.solid, undefA, resAll, resOne, resVal, pendOk, pastOk, cutCons, List.append_assoc, List.length_append, List.set_cons_zero, List.set_cons_succ, List.singleton_append, List.getElem?_cons_zero, List.getElem?_cons_succ, List.getElem?_nil, implies_true, false_implies, true_implies, Option.bind_some, Option.map_some, Option.bind_none, Option.map_none, Option.isSome_some, if_true, if_false, reduceCtorEq, Nat.reduceAdd, Nat.reduceEqDiff, Nat.reduceMod, Nat.reduceLT, Nat.reduceLeDiff, Nat.reduceSub, Nat.reduceMul, Int.reduceAdd, Int.reduceSub, Int.reduceMul, Int.reduceNeg, Int.reduceLT, Int.reduceLE, Int.reduceToNat, beq_self_eq_true, ↓reduceIte, List.length_nil, List.length_cons, List.take, List.drop, List.nil_append, List.cons_append, List.append_nil, decide_true, decide_false, lqw, h2, hb2, rowOf_own h''.hd, h''.rows, hle, hst, rowOf_own hp.tab.hd]
   refine (ans_cut _ _ _).mono ?_
   rintro _ m3 ⟨rfl, rfl⟩
   simp -implicitDefEqProofs only [Go.Adm.adm, wantedA, evalAll, AX.eval, AFr.get, AFr.set, AFr.put, AFr.cut, frameOf, AK.loud, pMv, pPick, aPick, pNil, pArith, pShift, pCmp, pEq, pEqAgg, pNot, pNeg, pBnot, pConv, pArrPtr, pSlice, pSliceArr, pFieldAddr, pPart, pIdxAddr, pIdxAddrArr, pIdxArr, pIdxStr, pExtract, pLenStr, pLenArr, pMin, pMax, pIface, aArith, aShift, aCmp, aEq, aEqCk, aEqCells, aPart, bounds, bnd, rLoad, mkAlloc, mkBox, mkMake, rMark, mkS2b, w2, aStore, aFill, cellsV, AV.solid, undefA, resAll, resOne, resVal, pendOk, pastOk, cutCons, List.append_assoc, List.length_append, List.set_cons_zero, List.set_cons_succ, List.singleton_append, List.getElem?_cons_zero, List.getElem?_cons_succ, List.getElem?_nil, implies_true, false_implies, true_implies, Option.bind_some, Option.map_some, Option.bind_none, Option.map_none, Option.isSome_some, if_true, if_false, reduceCtorEq, Nat.reduceAdd, Nat.reduceEqDiff, Nat.reduceMod, Nat.reduceLT, Nat.reduceLeDiff, Nat.reduceSub, Nat.reduceMul, Int.reduceAdd, Int.reduceSub, Int.reduceMul, Int.reduceNeg, Int.reduceLT, Int.reduceLE, Int.reduceToNat, beq_self_eq_true, ↓reduceIte, List.length_nil, List.length_cons, List.take, List.drop, List.nil_append, List.cons_append, List.append_nil, decide_true, decide_false, lqw, hb1', rowOf_own hp.tab.hd, hp.tab.rows, hle2, hall, rowOf_own hfin.tab.hd, hy]
   exact hfin
  ·have hle2 := flat_le hx (j := 3) (by omega)
   have hall := set_all hx 1 0 (cutI now 1099511627776)
   have hfin := hlast _ _ rfl ⟨.refl _ _, h''⟩
   simp -implicitDefEqProofs only [Go.Adm.adm, wantedA, evalAll, AX.eval, AFr.get, AFr.set, AFr.put, AFr.cut, frameOf, AK.loud, pMv, pPick, aPick, pNil, pArith, pShift, pCmp, pEq, pEqAgg, pNot, pNeg, pBnot, pConv, pArrPtr, pSlice, pSliceArr, pFieldAddr, pPart, pIdxAddr, pIdxAddrArr, pIdxArr, pIdxStr, pExtract, pLenStr, pLenArr, pMin, pMax, pIface, aArith, aShift, aCmp, aEq, aEqCk, aEqCells, aPart, bounds, bnd, rLoad, mkAlloc, mkBox, mkMake, rMark, mkS2b, w2, aStore, aFill, cellsV, AV.solid, undefA, resAll, resOne, resVal, pendOk, pastOk, cutCons, List.append_assoc, List.length_append, List.set_cons_zero, List.set_cons_succ, List.singleton_append, List.getElem?_cons_zero, List.getElem?_cons_succ, List.getElem?_nil, implies_true, false_implies, true_implies, Option.bind_some, Option.map_some, Option.bind_none, Option.map_none, Option.isSome_some, if_true, if_false, reduceCtorEq, Nat.reduceAdd, Nat.reduceEqDiff, Nat.reduceMod, Nat.reduceLT, Nat.reduceLeDiff, Nat.reduceSub, Nat.reduceMul, Int.reduceAdd, Int.reduceSub, Int.reduceMul, Int.reduceNeg, Int.reduceLT, Int.reduceLE, Int.reduceToNat, beq_self_eq_true, ↓reduceIte, List.length_nil, List.length_cons, List.take, List.drop, List.nil_append, List.cons_append, List.append_nil, decide_true, decide_false, lqw, h2, rowOf_own h''.hd]
   refine (ans_cut _ _ _).mono ?_
   rintro _ m3 ⟨rfl, rfl⟩
   simp -implicitDefEqProofs only [Go.Adm.adm, wantedA, evalAll, AX.eval, AFr.get, AFr.set, AFr.put, AFr.cut, frameOf, AK.loud, pMv, pPick, aPick, pNil, pArith, pShift, pCmp, pEq, pEqAgg, pNot, pNeg, pBnot, pConv, pArrPtr, pSlice, pSliceArr, pFieldAddr, pPart, pIdxAddr, pIdxAddrArr, pIdxArr, pIdxStr, pExtract, pLenStr, pLenArr, pMin, pMax, pIface, aArith, aShift, aCmp, aEq, aEqCk, aEqCells, aPart, bounds, bnd, rLoad, mkAlloc, mkBox, mkMake, rMark, mkS2b, w2, aStore, aFill, cellsV, AV.solid, undefA, resAll, resOne, resVal, pendOk, pastOk, cutCons, List.append_assoc, List.length_append, List.set_cons_zero, List.set_cons_succ, List.singleton_append, List.getElem?_cons_zero, List.getElem?_cons_succ, List.getElem?_nil, implies_true, false_implies, true_implies, Option.bind_some, Option.map_some, Option.bind_none, Option.map_none, Option.isSome_some, if_true, if_false, reduceCtorEq, Nat.reduceAdd, Nat.reduceEqDiff, Nat.reduceMod, Nat.reduceLT, Nat.reduceLeDiff, Nat.reduceSub, Nat.reduceMul, Int.reduceAdd, Int.reduceSub, Int.reduceMul, Int.reduceNeg, Int.reduceLT, Int.reduceLE, Int.reduceToNat, beq_self_eq_true, ↓reduceIte, List.length_nil, List.length_cons, List.take, List.drop, List.nil_append, List.cons_append, List.append_nil, decide_true, decide_false, lqw, hb1, rowOf_own h''.hd, h''.rows, hle2, hall, rowOf_own hfin.tab.hd]
   exact hfin
 ·have h1' : idxOf 0 l < 0 := by omega
  simp only [takeM, if_neg h1]
  simp -implicitDefEqProofs only [Go.Adm.adm, wantedA, evalAll, AX.eval, AFr.get, AFr.set, AFr.put, AFr.cut, frameOf, AK.loud, pMv, pPick, aPick, pNil, pArith, pShift, pCmp, pEq, pEqAgg, pNot, pNeg, pBnot, pConv, pArrPtr, pSlice, pSliceArr, pFieldAddr, pPart, pIdxAddr, pIdxAddrArr, pIdxArr, pIdxStr, pExtract, pLenStr, pLenArr, pMin, pMax, pIface, aArith, aShift, aCmp, aEq, aEqCk, aEqCells, aPart, bounds, bnd, rLoad, mkAlloc, mkBox, mkMake, rMark, mkS2b, w2, aStore, aFill, cellsV, AV.solid, undefA, resAll, resOne, resVal, pendOk, pastOk, cutCons, List.append_assoc, List.length_append, List.set_cons_zero, List.set_cons_succ, List.singleton_append, List.getElem?_cons_zero, List.getElem?_cons_succ, List.getElem?_nil, implies_true, false_implies, true_implies, Option.bind_some, Option.map_some, Option.bind_none, Option.map_none, Option.isSome_some, if_true, if_false, reduceCtorEq, Nat.reduceAdd, Nat.reduceEqDiff, Nat.reduceMod, Nat.reduceLT, Nat.reduceLeDiff, Nat.reduceSub, Nat.reduceMul, Int.reduceAdd, Int.reduceSub, Int.reduceMul, Int.reduceNeg, Int.reduceLT, Int.reduceLE, Int.reduceToNat, beq_self_eq_true, ↓reduceIte, List.length_nil, List.length_cons, List.take, List.drop, List.nil_append, List.cons_append, List.append_nil, decide_true, decide_false, lqw, h1']
  exact ⟨hk.any, h'⟩
end Go.Proofs.YtehnkcnjmfbjpaaGreat
end
section
namespace Go.Proofs.YtehnkcnjmfbjpaaGreat
open Go Go.Adm
set_option linter.unusedSimpArgs false
set_option linter.unusedVariables false
def numI (v : Int) : List B8 := numB (e64 v)
theorem numI_len (v : Int) : (numI v).length = 8 := numB_len _
theorem numI_nat {v : Nat} (h : v < 18446744073709551616) : numI v = numB v := by
 have h1 := e64_wrap v
 rw [nw64 h] at h1
 rw [numI, ← Int.ofNat.inj h1]
def refB (r : Rf) : List B8 := numI r.at_ ++ r.sum.1
theorem refB_len (r : Rf) : (refB r).length = 40 := by simp [refB, numI_len, r.sum.2]
def atG (g : Geo) (seg slot : Int) : Int := if okG g ∧ (0 ≤ seg ∧ seg ≤ g.s - 1) ∧ 0 ≤ slot ∧ slot ≤ g.n - 1 then 3 + seg * g.n + slot else 0
def secsG (g : Geo) : Int := if okG g then 3 + g.s * g.n else 0
def plB (g : Geo) (a : Int) : Prop := 3 ≤ a ∧ a ≤ secsG g - 1
instance (g : Geo) (a : Int) : Decidable (plB g a) := by unfold plB; infer_instance
def plG (g : Geo) (a : Int) : Int × Int := if plB g a then ((a - 3) / g.n, (a - 3) % g.n) else (0, 0)
structure Ent where
 k : Int
 b : Int
 s : Int
 sum : Sm
deriving DecidableEq
def Ent.cells (e : Ent) : List AV := .int .i64 e.k :: .int .i64 e.b :: .int .i64 e.s :: bys e.sum.1
theorem Ent.cells_len (e : Ent) : e.cells.length = 35 := by simp [Ent.cells, e.sum.2]
def Ent.placed (e : Ent) : Prop := ((0 ≤ e.b ∧ e.b ≤ (if e.k = 3 then 9 else 64) - 1) ∧ 0 ≤ e.s ∧ e.s ≤ 63) ∧ (e.k = 2 → e.s = 0 ∧ e.sum = Sm.zero)
instance (e : Ent) : Decidable e.placed := by unfold Ent.placed; infer_instance
def chkL : Int → List Ent → Int
 | _, [] => 0
 | last, e :: l => if ¬ (1 ≤ e.k ∧ e.k ≤ 3) then 5 else if ¬ e.placed then 7 else if e.k = 2 then chkL last l else if 0 ≤ last ∧ e.s ≠ last + 1 then 8 else chkL e.s l
structure Smy where
 stamp : Int
 prev : Sm
 next : Int
 ents : List Ent
def smyE (s : Smy) : Int := if s.ents.length > 16 then 17 else if ¬ (0 ≤ s.stamp ∧ s.stamp ≤ 1099511627776) ∨ ¬ (-1 ≤ s.next ∧ s.next ≤ 31) then 7 else chkL (-1) s.ents
def Ent.by (e : Ent) : List B8 := numI e.k ++ numI e.b ++ numI e.s ++ e.sum.1
theorem Ent.by_len (e : Ent) : e.by.length = 56 := by simp [Ent.by, numI_len, e.sum.2]
def smyR (s : Smy) : List B8 := numI s.stamp ++ s.prev.1 ++ numI s.next ++ numI s.ents.length ++ s.ents.flatMap Ent.by
def smyB (s : Smy) : List B8 := if smyE s = 0 then smyR s else []
abbrev Pg := List Rf
def pgOk (i : Int) (p : Pg) : Prop := (∀ r ∈ p, r ≠ Rf.zero → 3 ≤ r.at_ ∧ r.at_ < 4096) ∧ 0 ≤ i ∧ i < 9
instance (i : Int) (p : Pg) : Decidable (pgOk i p) := by unfold pgOk; infer_instance
def pgE (i : Int) (p : Pg) : Int := if pgOk i p then 0 else 7
def pgB (i : Int) (p : Pg) : List B8 := if pgOk i p then numI i ++ p.flatMap refB else []
structure Wr where
 g : Geo
 ep : Int
 seg : Int
 slot : Int
 prev : Sm
 ents : List Ent
 no : Int
structure Vl where
 d : Dk
 c : CyS
 u : List Sg
 w : Wr
def Vl.atS (v : Vl) : Int := atG v.w.g v.w.seg v.w.slot
def Vl.sec (v : Vl) (k : Int) (p : List B8) : Sec := ⟨k, v.w.ep, v.w.no, v.atS, p⟩
def Vl.by (v : Vl) (k : Int) (p : List B8) : List B8 := putL v.c (v.sec k p)
def smOf (c : CyS) (b : List B8) : Sm := ⟨cySm c b, cySm_len c b⟩
def wrE (v : Vl) (k : Int) (p : List B8) : Int := if errP (v.sec k p) ≠ 0 then errP (v.sec k p) else writeE v.d v.atS (v.by k p)
def wrV (v : Vl) (k : Int) (p : List B8) : Vl :=
 if errP (v.sec k p) ≠ 0 then v
 else if writeE v.d v.atS (v.by k p) ≠ 0 then { v with c := putC v.c (v.sec k p), d := writeD v.d v.atS (v.by k p) }
 else { v with c := cyTx (putC v.c (v.sec k p)) (v.by k p), d := writeD v.d v.atS (v.by k p), w := { v.w with no := IntKind.i64.wrap (v.w.no + 1), slot := IntKind.i64.wrap (v.w.slot + 1) } }
def wrR (v : Vl) (k : Int) (p : List B8) : Rf := if wrE v k p = 0 then ⟨v.atS, smOf (putC v.c (v.sec k p)) (v.by k p)⟩ else Rf.zero
def Vl.last (v : Vl) (a : Int) : Prop := v.w.slot = v.w.g.n - 1 - a
instance (v : Vl) (a : Int) : Decidable (v.last a) := by unfold Vl.last; infer_instance
def Vl.full (v : Vl) : Prop := v.u.countP (·.st == 0) = 0
instance (v : Vl) : Decidable v.full := by unfold Vl.full; infer_instance
def enN (v : Vl) : Int := if v.last 0 then (takeM v.w.no v.u).1 else -1
def enU (v : Vl) : Vl := if v.last 0 then { v with u := (takeM v.w.no v.u).2.2 } else v
def enS (v : Vl) (stamp : Int) : Smy := ⟨stamp, v.w.prev, enN v, v.w.ents⟩
def enE (v : Vl) (stamp : Int) : Int := if smyE (enS v stamp) ≠ 0 then smyE (enS v stamp) else wrE (enU v) 3 (smyB (enS v stamp))
def enV (v : Vl) (stamp : Int) : Vl :=
 if smyE (enS v stamp) ≠ 0 then enU v
 else if wrE (enU v) 3 (smyB (enS v stamp)) ≠ 0 then wrV (enU v) 3 (smyB (enS v stamp))
 else
  let v2 := wrV (enU v) 3 (smyB (enS v stamp))
  { v2 with w := { v2.w with prev := (wrR (enU v) 3 (smyB (enS v stamp))).sum, ents := [], seg := if 0 ≤ enN v then enN v else v2.w.seg, slot := if 0 ≤ enN v then 0 else v2.w.slot } }
def rmE (v : Vl) : Int := if v.last 0 then enE v 0 else 0
def rmV (v : Vl) : Vl := if v.last 0 then enV v 0 else v
def lyW (v : Vl) (x : Ent) : Vl := { v with w := { v.w with ents := v.w.ents ++ [x] } }
def lyE (v : Vl) (x : Ent) : Int := if v.w.ents.length + 1 < 16 then 0 else enE (lyW v x) 0
def lyV (v : Vl) (x : Ent) : Vl := if v.w.ents.length + 1 < 16 then lyW v x else enV (lyW v x) 0
def entK (k no : Int) : Int := if k = 4 ∧ 0 ≤ no ∧ no < 64 then 1 else if k = 5 ∧ 0 ≤ no ∧ no < 9 then 3 else 0
def apX (v : Vl) (k no : Int) (p : List B8) : Ent := ⟨entK k no, no, v.w.slot, (wrR v k p).sum⟩
def apE (v : Vl) (k no : Int) (p : List B8) : Int :=
 if entK k no = 0 ∨ p.length > 975 then 1
 else if v.full ∧ (v.last 0 ∨ v.last 1 ∧ v.w.ents.length = 15) then 11
 else if rmE v ≠ 0 then rmE v
 else if wrE (rmV v) k p ≠ 0 then wrE (rmV v) k p
 else lyE (wrV (rmV v) k p) (apX (rmV v) k no p)
def apV (v : Vl) (k no : Int) (p : List B8) : Vl :=
 if entK k no = 0 ∨ p.length > 975 then v
 else if v.full ∧ (v.last 0 ∨ v.last 1 ∧ v.w.ents.length = 15) then v
 else if rmE v ≠ 0 then rmV v
 else if wrE (rmV v) k p ≠ 0 then wrV (rmV v) k p
 else lyV (wrV (rmV v) k p) (apX (rmV v) k no p)
def apR (v : Vl) (k no : Int) (p : List B8) : Rf := if apE v k no p = 0 then wrR (rmV v) k p else Rf.zero
def clE (v : Vl) (s : Int) : Int := if s < 0 ∨ 1099511627776 < s then 1 else if v.full ∧ v.last 0 then 11 else enE v s
def clV (v : Vl) (s : Int) : Vl := if s < 0 ∨ 1099511627776 < s then v else if v.full ∧ v.last 0 then v else enV v s
structure Pt where
 v : Vl
 t : Tr
def acU (g : Geo) (no n : Int) : List Sg → List Rf → List Sg
 | u, [] => u
 | u, r :: l => acU g no n (if plB g r.at_ then (addM (plG g r.at_).1 n no u).2 else u) l
def Vl.acc (v : Vl) (n : Int) (l : List Rf) : Vl := { v with u := acU v.w.g v.w.no n v.u l }
def puP (b : Int) (data : List B8) : List B8 := numI b ++ data
def puE (x : Pt) (b : Int) (data : List B8) : Int := apE x.v 4 b (puP b data)
def puT (x : Pt) (b : Int) (data : List B8) : Pt :=
 if puE x b data ≠ 0 then ⟨apV x.v 4 b (puP b data), x.t⟩
 else
  let r := apR x.v 4 b (puP b data)
  ⟨((apV x.v 4 b (puP b data)).acc 1 [r]).acc (-1) (x.t.setR b r), x.t.setT b r⟩
def savE (x : Pt) (i : Int) : Int :=
 if i = 0 ∧ x.t.mapped = 0 then x.t.savedE 0 Rf.zero
 else if pgE i (x.t.page i) ≠ 0 then pgE i (x.t.page i)
 else if apE x.v 5 i (pgB i (x.t.page i)) ≠ 0 then apE x.v 5 i (pgB i (x.t.page i))
 else x.t.savedE i (apR x.v 5 i (pgB i (x.t.page i)))
def savT (x : Pt) (i : Int) : Pt :=
 if i = 0 ∧ x.t.mapped = 0 then ⟨x.v, x.t.savedT 0 Rf.zero⟩
 else if pgE i (x.t.page i) ≠ 0 then x
 else if apE x.v 5 i (pgB i (x.t.page i)) ≠ 0 then ⟨apV x.v 5 i (pgB i (x.t.page i)), x.t⟩
 else
  let r := apR x.v 5 i (pgB i (x.t.page i))
  ⟨(apV x.v 5 i (pgB i (x.t.page i))).acc 1 [r], x.t.savedT i r⟩
def saE : Pt → List Nat → Int
 | _, [] => 0
 | x, i :: l => if savE x i ≠ 0 then savE x i else saE (savT x i) l
def saT : Pt → List Nat → Pt
 | x, [] => x
 | x, i :: l => if savE x i ≠ 0 then savT x i else saT (savT x i) l
end Go.Proofs.YtehnkcnjmfbjpaaGreat
end
section
namespace Go.Proofs.YtehnkcnjmfbjpaaGreat
open Go Go.Adm
set_option linter.unusedSimpArgs false
set_option linter.unusedVariables false
def Wr.cells (xd xc xu : Nat) (t : TypeId) (en : AV) (w : Wr) : List AV :=
 .ptr xd 0 :: .iface t (.ptr xc 0) :: .int .i64 w.g.s :: .int .i64 w.g.n :: .int .i64 w.g.b :: .ptr xu 0 :: .int .i64 w.ep :: .int .i64 w.seg :: .int .i64 w.slot :: (bys w.prev.1 ++ [en, .int .i64 w.no])
structure VlX (m : Mem) (xd xc xu xw : Nat) (Wd Rd Wc Rc : List Nat) (bu : Nat) (en : AV) (v : Vl) : Prop where
 dk : Dsk m xd Wd Rd v.d
 cy : Cy m xc Wc Rc v.c
 tb : Tab m xu bu v.u
 wh : own m xw = some (v.w.cells xd xc xu (cyT v.c) en)
 wg : GrL Ent.cells 35 0 m en v.w.ents
 a1 : ∀ q ∈ Rd, q ∉ Rc
 a2 : xu ∉ Rd ∧ xu ∉ Rc ∧ bu ∉ Rd ∧ bu ∉ Rc
 a3 : xw ∉ Rd ∧ xw ∉ Rc ∧ xw ≠ xu ∧ xw ≠ bu
 a4 : ∀ q ∈ blkOf en, q ∉ Rd ∧ q ∉ Rc ∧ q ≠ xu ∧ q ≠ bu ∧ q ≠ xw
def vlR (xu xw : Nat) (Rd Rc : List Nat) (bu : Nat) (en : AV) : List Nat := xu :: bu :: xw :: (blkOf en ++ (Rd ++ Rc))
def vlW (xw : Nat) (Wd Wc : List Nat) (bu : Nat) (en : AV) : List Nat := bu :: xw :: (blkOf en ++ (Wd ++ Wc))
theorem VlX.lt {m : Mem} {xd xc xu xw bu : Nat} {Wd Rd Wc Rc : List Nat} {en : AV} {v : Vl} (h : VlX m xd xc xu xw Wd Rd Wc Rc bu en v) : ∀ q ∈ vlR xu xw Rd Rc bu en, q < m.length := by
 intro q hq
 simp only [vlR, List.mem_cons, List.mem_append] at hq
 rcases hq with rfl | rfl | rfl | hq | hq | hq
 ·exact own_lt h.tb.hd
 ·exact own_lt h.tb.rows
 ·exact own_lt h.wh
 ·exact h.wg.lt q hq
 ·exact h.dk.lt q hq
 ·exact h.cy.lt q hq
theorem VlX.sub {m : Mem} {xd xc xu xw bu : Nat} {Wd Rd Wc Rc : List Nat} {en : AV} {v : Vl} (h : VlX m xd xc xu xw Wd Rd Wc Rc bu en v) : ∀ q ∈ vlW xw Wd Wc bu en, q ∈ vlR xu xw Rd Rc bu en := by
 intro q hq
 have h1 := h.dk.sub q
 have h2 := h.cy.sub q
 simp only [vlW, vlR, List.mem_cons, List.mem_append] at hq ⊢
 rcases hq with hq | hq | hq | hq | hq
 ·simp [hq]
 ·simp [hq]
 ·simp [hq]
 ·simp [h1 hq]
 ·simp [h2 hq]
theorem VlX.kept {m m' : Mem} {xd xc xu xw bu : Nat} {Wd Rd Wc Rc X : List Nat} {en : AV} {v : Vl} (h : VlX m xd xc xu xw Wd Rd Wc Rc bu en v) (hk : Kept X m m') (hX : ∀ q ∈ vlR xu xw Rd Rc bu en, q ∉ X) : VlX m' xd xc xu xw Wd Rd Wc Rc bu en v := by
 have hx : ∀ q, (q = xu ∨ q = bu ∨ q = xw ∨ q ∈ blkOf en ∨ q ∈ Rd ∨ q ∈ Rc) → q ∉ X := fun q hq => hX q (by simpa [vlR] using hq)
 exact ⟨h.dk.kept hk (fun q hq => hx q (by simp [hq])), h.cy.kept hk (fun q hq => hx q (by simp [hq])), h.tb.kept hk (hx _ (by simp)) (hx _ (by simp)), hk.own h.wh (hx _ (by simp)), h.wg.kept hk (fun q hq => hx q (by simp [hq])), h.a1, h.a2, h.a3, h.a4⟩
theorem VlX.kept0 {m m' : Mem} {xd xc xu xw bu : Nat} {Wd Rd Wc Rc : List Nat} {en : AV} {v : Vl} (h : VlX m xd xc xu xw Wd Rd Wc Rc bu en v) (hk : Kept [] m m') : VlX m' xd xc xu xw Wd Rd Wc Rc bu en v := h.kept hk (by simp)
theorem VlX.disk {m m' : Mem} {xd xc xu xw bu : Nat} {Wd Rd Rd' Wc Rc : List Nat} {en : AV} {v : Vl} {d' : Dk} (h : VlX m xd xc xu xw Wd Rd Wc Rc bu en v) (hk : Kept Wd m m') (hd : Dsk m' xd Wd Rd' d') (hR : ∀ q ∈ Rd', q ∈ Rd ∨ m.length ≤ q) : VlX m' xd xc xu xw Wd Rd' Wc Rc bu en { v with d := d' } := by
 have hs := h.dk.sub
 have hl := h.lt
 have hn : ∀ q, q ∈ vlR xu xw Rd Rc bu en → q ∉ Rd → q ∉ Rd' := fun q h1 h2 h3 => (hR q h3).elim h2 (fun h4 => by have := hl q h1; omega)
 have hw : ∀ q, q ∉ Rd → q ∉ Wd := fun q h1 h2 => h1 (hs q h2)
 have i1 : xu ∈ vlR xu xw Rd Rc bu en := by simp [vlR]
 have i2 : bu ∈ vlR xu xw Rd Rc bu en := by simp [vlR]
 have i3 : xw ∈ vlR xu xw Rd Rc bu en := by simp [vlR]
 have i4 : ∀ q ∈ blkOf en, q ∈ vlR xu xw Rd Rc bu en := fun q hq => by simp [vlR, hq]
 have i5 : ∀ q ∈ Rc, q ∈ vlR xu xw Rd Rc bu en := fun q hq => by simp [vlR, hq]
 refine ⟨hd, h.cy.kept hk (fun q hq => hw q (fun h1 => h.a1 q h1 hq)), h.tb.kept hk (hw _ h.a2.1) (hw _ h.a2.2.2.1), hk.own h.wh (hw _ h.a3.1), h.wg.kept hk (fun q hq => hw q (h.a4 q hq).1), fun q h1 h2 => hn q (i5 q h2) (fun h3 => h.a1 q h3 h2) h1, ⟨hn _ i1 h.a2.1, h.a2.2.1, hn _ i2 h.a2.2.2.1, h.a2.2.2.2⟩, ⟨hn _ i3 h.a3.1, h.a3.2⟩, fun q hq => ⟨hn q (i4 q hq) (h.a4 q hq).1, (h.a4 q hq).2⟩⟩
theorem VlX.crypt {m m' : Mem} {xd xc xu xw bu : Nat} {Wd Rd Wc Rc Wc' Rc' : List Nat} {en : AV} {v : Vl} {c' : CyS} (h : VlX m xd xc xu xw Wd Rd Wc Rc bu en v) (hk : Kept Wc m m') (hc : Cy m' xc Wc' Rc' c') (ht : cyT c' = cyT v.c) (hR : ∀ q ∈ Rc', q ∈ Rc ∨ m.length ≤ q) : VlX m' xd xc xu xw Wd Rd Wc' Rc' bu en { v with c := c' } := by
 have hs := h.cy.sub
 have hl := h.lt
 have hn : ∀ q, q ∈ vlR xu xw Rd Rc bu en → q ∉ Rc → q ∉ Rc' := fun q h1 h2 h3 => (hR q h3).elim h2 (fun h4 => by have := hl q h1; omega)
 have hw : ∀ q, q ∉ Rc → q ∉ Wc := fun q h1 h2 => h1 (hs q h2)
 have i1 : xu ∈ vlR xu xw Rd Rc bu en := by simp [vlR]
 have i2 : bu ∈ vlR xu xw Rd Rc bu en := by simp [vlR]
 have i3 : xw ∈ vlR xu xw Rd Rc bu en := by simp [vlR]
 have i4 : ∀ q ∈ blkOf en, q ∈ vlR xu xw Rd Rc bu en := fun q hq => by simp [vlR, hq]
 have i5 : ∀ q ∈ Rd, q ∈ vlR xu xw Rd Rc bu en := fun q hq => by simp [vlR, hq]
 refine ⟨h.dk.kept hk (fun q hq => hw q (h.a1 q hq)), hc, h.tb.kept hk (hw _ h.a2.2.1) (hw _ h.a2.2.2.2), ?_, h.wg.kept hk (fun q hq => hw q (h.a4 q hq).2.1), fun q h1 => hn q (i5 q h1) (h.a1 q h1), ⟨h.a2.1, hn _ i1 h.a2.2.1, h.a2.2.2.1, hn _ i2 h.a2.2.2.2⟩, ⟨h.a3.1, hn _ i3 h.a3.2.1, h.a3.2.2⟩, fun q hq => ⟨(h.a4 q hq).1, hn q (i4 q hq) (h.a4 q hq).2.1, (h.a4 q hq).2.2⟩⟩
 show own m' xw = some (v.w.cells xd xc xu (cyT c') en)
 rw [ht]; exact hk.own h.wh (hw _ h.a3.2.1)
theorem VlX.table {m m' : Mem} {xd xc xu xw bu : Nat} {Wd Rd Wc Rc : List Nat} {en : AV} {v : Vl} {u' : List Sg} (h : VlX m xd xc xu xw Wd Rd Wc Rc bu en v) (hp : Put m m' xu bu u') : VlX m' xd xc xu xw Wd Rd Wc Rc bu en { v with u := u' } := by
 have hk := hp.kept
 have s1 : ∀ {q : Nat}, q ≠ bu → q ∉ [bu] := fun h => by simpa using h
 exact ⟨h.dk.kept hk (fun q hq => s1 (fun e => h.a2.2.2.1 (e ▸ hq))), h.cy.kept hk (fun q hq => s1 (fun e => h.a2.2.2.2 (e ▸ hq))), hp.tab, hk.own h.wh (s1 h.a3.2.2.2), h.wg.kept hk (fun q hq => s1 (h.a4 q hq).2.2.2.1), h.a1, h.a2, h.a3, h.a4⟩
theorem VlX.writer {m m' : Mem} {xd xc xu xw bu : Nat} {Wd Rd Wc Rc X : List Nat} {en en' : AV} {v : Vl} {w' : Wr} (h : VlX m xd xc xu xw Wd Rd Wc Rc bu en v) (hk : Kept X m m') (hX : ∀ q ∈ X, q = xw ∨ q ∈ blkOf en) (hw : own m' xw = some (w'.cells xd xc xu (cyT v.c) en')) (hg : GrL Ent.cells 35 0 m' en' w'.ents) (he : ∀ q ∈ blkOf en', q ∈ blkOf en ∨ m.length ≤ q) : VlX m' xd xc xu xw Wd Rd Wc Rc bu en' { v with w := w' } := by
 have hl := h.lt
 have a4 := h.a4
 have hn : ∀ q, (q ∈ Rd ∨ q ∈ Rc ∨ q = xu ∨ q = bu) → q ∉ X := fun q hq h1 => by
  have h3 := h.a3
  rcases hX q h1 with rfl | h2
  ·rcases hq with hq | hq | hq | hq
   ·exact h3.1 hq
   ·exact h3.2.1 hq
   ·exact h3.2.2.1 hq
   ·exact h3.2.2.2 hq
  ·obtain ⟨b1, b2, b3, b4, -⟩ := a4 q h2
   rcases hq with hq | hq | hq | hq
   ·exact b1 hq
   ·exact b2 hq
   ·exact b3 hq
   ·exact b4 hq
 refine ⟨h.dk.kept hk (fun q hq => hn q (.inl hq)), h.cy.kept hk (fun q hq => hn q (.inr (.inl hq))), h.tb.kept hk (hn _ (by simp)) (hn _ (by simp)), hw, hg, h.a1, h.a2, h.a3, fun q hq => ?_⟩
 rcases he q hq with h1 | h1
 ·exact a4 q h1
 ·have hne : ∀ r, r ∈ vlR xu xw Rd Rc bu en → q ≠ r := fun r hr e => by have := hl r hr; omega
  refine ⟨fun h2 => hne q (by simp [vlR, h2]) rfl, fun h2 => hne q (by simp [vlR, h2]) rfl, hne _ (by simp [vlR]), hne _ (by simp [vlR]), hne _ (by simp [vlR])⟩
end Go.Proofs.YtehnkcnjmfbjpaaGreat
end
section
namespace Go.Proofs.YtehnkcnjmfbjpaaGreat
open Go Go.Adm
set_option linter.unusedSimpArgs false
set_option linter.unusedVariables false
section
variable (xd xc xu : Nat) (t : TypeId) (en : AV) (w : Wr)
theorem Wr.len : (w.cells xd xc xu t en).length = 43 := by simp [Wr.cells, w.prev.2]
theorem Wr.c0 : (w.cells xd xc xu t en)[0]? = some (.ptr xd 0) := rfl
theorem Wr.c1 : (w.cells xd xc xu t en)[1]? = some (.iface t (.ptr xc 0)) := rfl
theorem Wr.c3 : (w.cells xd xc xu t en)[3]? = some (.int .i64 w.g.n) := rfl
theorem Wr.c5 : (w.cells xd xc xu t en)[5]? = some (.ptr xu 0) := rfl
theorem Wr.c6 : (w.cells xd xc xu t en)[6]? = some (.int .i64 w.ep) := rfl
theorem Wr.c8 : (w.cells xd xc xu t en)[8]? = some (.int .i64 w.slot) := rfl
theorem Wr.c41 : (w.cells xd xc xu t en)[41]? = some en := by
 show (bys w.prev.1 ++ [en, .int .i64 w.no])[32]? = _
 rw [List.getElem?_append_right (by simp [w.prev.2])]; simp [w.prev.2]
theorem Wr.c42 : (w.cells xd xc xu t en)[42]? = some (.int .i64 w.no) := by
 show (bys w.prev.1 ++ [en, .int .i64 w.no])[33]? = _
 rw [List.getElem?_append_right (by simp [w.prev.2])]; simp [w.prev.2]
theorem Wr.t2 : List.take 3 (List.drop 2 (w.cells xd xc xu t en)) = geoC w.g := rfl
theorem Wr.t7 : List.take 2 (List.drop 7 (w.cells xd xc xu t en)) = [.int .i64 w.seg, .int .i64 w.slot] := rfl
theorem Wr.t9 : List.take 32 (List.drop 9 (w.cells xd xc xu t en)) = bys w.prev.1 := by
 show List.take 32 (bys w.prev.1 ++ [en, .int .i64 w.no]) = _
 exact List.take_left' (by simp [w.prev.2])
theorem Wr.s42 (n : Int) : splice (w.cells xd xc xu t en) 42 [.int .i64 n] = ({ w with no := n } : Wr).cells xd xc xu t en := by
 have := w.prev.2
 have e1 : List.take 33 (bys w.prev.1 ++ [en, .int .i64 w.no]) = bys w.prev.1 ++ [en] := by
  rw [List.take_append, List.take_of_length_le (by simp [this])]; simp [this]
 have e2 : List.drop 34 (bys w.prev.1 ++ [en, .int .i64 w.no]) = [] := List.drop_of_length_le (by simp [this])
 simp [splice, Wr.cells, e1, e2]
theorem Wr.s8 (n : Int) : splice (w.cells xd xc xu t en) 8 [.int .i64 n] = ({ w with slot := n } : Wr).cells xd xc xu t en := by
 simp [splice, Wr.cells]
theorem Wr.s7 (a b : Int) : splice (w.cells xd xc xu t en) 7 [.int .i64 a, .int .i64 b] = ({ w with seg := a, slot := b } : Wr).cells xd xc xu t en := by
 simp [splice, Wr.cells]
theorem Wr.s9 (s : Sm) : splice (w.cells xd xc xu t en) 9 (bys s.1) = ({ w with prev := s } : Wr).cells xd xc xu t en := by
 have h1 := w.prev.2
 have h2 := s.2
 simp [splice, Wr.cells, h1, h2]
theorem Wr.s41 (en' : AV) (l : List Ent) : splice (w.cells xd xc xu t en) 41 [en'] = ({ w with ents := l } : Wr).cells xd xc xu t en' := by
 have := w.prev.2
 have e1 : List.take 32 (bys w.prev.1 ++ [en, .int .i64 w.no]) = bys w.prev.1 := List.take_left' (by simp [this])
 have e2 : List.drop 33 (bys w.prev.1 ++ [en, .int .i64 w.no]) = [.int .i64 w.no] := by
  rw [List.drop_append, List.drop_of_length_le (by simp [this])]; simp [this]
 simp [splice, Wr.cells, e1, e2]
end
theorem cyTk_mono {c : CyS} {k k' : Nat} (h : cyTk c k) (hk : k ≤ k') : cyTk c k' := by
 cases c with
 | nm S T => simp only [cyTk] at h ⊢; omega
theorem cyTk_put {c : CyS} {k : Nat} (h : cyTk c k) (s : Sec) : cyTk (putC c s) k := by
 have e1 : ∀ s, cyTk (cyNx c s) k := fun s => by cases c <;> exact h
 unfold putC; split <;> first | exact e1 _ | exact h
theorem cy_w {m m' : Mem} {x n : Nat} {W R W' R' : List Nat} {c c' : CyS} (h : Cy m x W R c) (h' : Cy m' x W' R' c') (ht : cyT c' = cyT c) (hR : ∀ q ∈ R', q ∈ R ∨ n ≤ q) : ∀ q ∈ W', q ∈ W ∨ n ≤ q := by
 cases c' with
 | nm S T =>
  cases c with
  | nm S' T' =>
   obtain ⟨-, rfl⟩ := h
   obtain ⟨-, rfl⟩ := h'
   exact hR
def VlM (m : Mem) (xd xc xu xw : Nat) (B V : List Nat) (v : Vl) : Prop := ∃ Wd Rd Wc Rc bu en, VlX m xd xc xu xw Wd Rd Wc Rc bu en v ∧ B = vlR xu xw Rd Rc bu en ∧ V = vlW xw Wd Wc bu en
theorem VlM.lt {m : Mem} {xd xc xu xw : Nat} {B V : List Nat} {v : Vl} (h : VlM m xd xc xu xw B V v) : ∀ q ∈ B, q < m.length := by
 obtain ⟨Wd, Rd, Wc, Rc, bu, en, hx, rfl, rfl⟩ := h; exact hx.lt
theorem VlM.sub {m : Mem} {xd xc xu xw : Nat} {B V : List Nat} {v : Vl} (h : VlM m xd xc xu xw B V v) : ∀ q ∈ V, q ∈ B := by
 obtain ⟨Wd, Rd, Wc, Rc, bu, en, hx, rfl, rfl⟩ := h; exact hx.sub
theorem VlM.kept {m m' : Mem} {xd xc xu xw : Nat} {B V X : List Nat} {v : Vl} (h : VlM m xd xc xu xw B V v) (hk : Kept X m m') (hX : ∀ q ∈ B, q ∉ X) : VlM m' xd xc xu xw B V v := by
 obtain ⟨Wd, Rd, Wc, Rc, bu, en, hx, rfl, rfl⟩ := h
 exact ⟨Wd, Rd, Wc, Rc, bu, en, hx.kept hk hX, rfl, rfl⟩
theorem VlM.kept0 {m m' : Mem} {xd xc xu xw : Nat} {B V : List Nat} {v : Vl} (h : VlM m xd xc xu xw B V v) (hk : Kept [] m m') : VlM m' xd xc xu xw B V v := h.kept hk (by simp)
def Goes (xd xc xu xw : Nat) (m : Mem) (B V : List Nat) (v' : Vl) (m' : Mem) : Prop :=
 ∃ B' V', VlM m' xd xc xu xw B' V' v' ∧ Kept V m m' ∧ (∀ q ∈ B', q ∈ B ∨ m.length ≤ q) ∧ (∀ q ∈ V', q ∈ V ∨ m.length ≤ q)
section
variable {xd xc xu xw : Nat} {m A m1 m2 : Mem} {B V : List Nat} {v v1 v2 : Vl}
theorem VlM.stay (h : VlM m xd xc xu xw B V v) (hk : Kept [] m m1) : Goes xd xc xu xw m B V v m1 := ⟨B, V, h.kept0 hk, hk.any, fun _ h => .inl h, fun _ h => .inl h⟩
theorem Goes.kept (h : Goes xd xc xu xw m B V v1 m1) : Kept V m m1 := by obtain ⟨_, _, -, h, -⟩ := h; exact h
theorem Goes.cat {B1 V1 : List Nat} (hk : Kept V m m1) (hb : ∀ q ∈ B1, q ∈ B ∨ m.length ≤ q) (hw : ∀ q ∈ V1, q ∈ V ∨ m.length ≤ q) (h : Goes xd xc xu xw m1 B1 V1 v2 m2) : Goes xd xc xu xw m B V v2 m2 := by
 obtain ⟨B2, V2, hv2, hk2, hb2, hw2⟩ := h
 have hl := hk.len
 exact ⟨B2, V2, hv2, ⟨Nat.le_trans hk.len hk2.len, fun q h3 h4 => by rw [hk2.eq q (hk.lt h3) (fun h5 => (hw q h5).elim h4 (fun h6 => by omega)), hk.eq q h3 h4]⟩, fun q hq => (hb2 q hq).elim (hb q) (fun h => .inr (by omega)), fun q hq => (hw2 q hq).elim (hw q) (fun h => .inr (by omega))⟩
theorem Goes.locals {X : List Nat} (hA : Kept [] m A) (h : Goes xd xc xu xw A B V v1 m1) (hB : ∀ q ∈ B, q < m.length) (hk : Kept X m1 m2) (hX : ∀ q ∈ X, m.length ≤ q ∧ q < A.length) : Goes xd xc xu xw m B V v1 m2 := by
 obtain ⟨B1, V1, hv, hk1, hb, hw⟩ := h
 have hl := hA.len
 refine ⟨B1, V1, hv.kept hk (fun q hq h1 => ?_), (hA.any.trans hk1).fresh hk (fun q hq => (hX q hq).1), fun q hq => (hb q hq).imp id (fun h => by omega), fun q hq => (hw q hq).imp id (fun h => by omega)⟩
 have := hX q h1
 rcases hb q hq with h2 | h2
 ·have := hB q h2; omega
 ·omega
theorem Goes.up (hA : Kept [] m A) (h : Goes xd xc xu xw A B V v1 m1) : Goes xd xc xu xw m B V v1 m1 := by
 obtain ⟨B1, V1, hv, hk1, hb, hw⟩ := h
 have hl := hA.len
 exact ⟨B1, V1, hv, hA.any.trans hk1, fun q hq => (hb q hq).imp id (fun h => by omega), fun q hq => (hw q hq).imp id (fun h => by omega)⟩
theorem Goes.more (h : Goes xd xc xu xw m B V v1 m1) (hk : Kept [] m1 m2) : Goes xd xc xu xw m B V v1 m2 := by
 obtain ⟨B1, V1, hv, hk1, hb, hw⟩ := h
 exact ⟨B1, V1, hv.kept0 hk, hk1.trans hk.any, hb, hw⟩
theorem Goes.own (h : Goes xd xc xu xw m B V v1 m1) (hs : ∀ q ∈ V, q ∈ B) {q : Nat} {c : List AV} (hq : Adm.own m q = some c) (hB : q ∉ B) : Adm.own m1 q = some c := h.kept.own hq (fun h1 => hB (hs q h1))
end
end Go.Proofs.YtehnkcnjmfbjpaaGreat
end
section
namespace Go.Proofs.YtehnkcnjmfbjpaaGreat
open Go Go.Adm
set_option linter.unusedSimpArgs false
set_option linter.unusedVariables false
set_option maxRecDepth 100000
def lq7 := And.intro @lenB (And.intro @lowB_len (And.intro @numB_len (And.intro @nsumB_len (And.intro @numI_len (@Rf.cells_len)))))
theorem ans_peightZ (v : Int) (m : Mem) : Ans Tryz.prog 75 [.int .i64 v] m fun r m' => Kept [] m m' ∧ OwB m.length m' r (numI v) := by
 refine ans_ret mixed ok75 ?_
 unfold numI
 have hV := e64_wrap v
 have hlt := e64_lt v
 generalize e64 v = V at *
 have hw : ∀ k : Nat, IntKind.u8.wrap ((V >>> (8 * k) : Nat) : Int) = ((byV V k).toNat : Int) := fun k => wrap_u8 _
 have h7 : IntKind.u8.wrap ((V >>> 56 : Nat) : Int) = ((byV V 7).toNat : Int) := hw 7
 have h6 : IntKind.u8.wrap ((V >>> 48 : Nat) : Int) = ((byV V 6).toNat : Int) := hw 6
 have h5 : IntKind.u8.wrap ((V >>> 40 : Nat) : Int) = ((byV V 5).toNat : Int) := hw 5
 have h4 : IntKind.u8.wrap ((V >>> 32 : Nat) : Int) = ((byV V 4).toNat : Int) := hw 4
 have h3 : IntKind.u8.wrap ((V >>> 24 : Nat) : Int) = ((byV V 3).toNat : Int) := hw 3
 have h2 : IntKind.u8.wrap ((V >>> 16 : Nat) : Int) = ((byV V 2).toNat : Int) := hw 2
 have h1 : IntKind.u8.wrap ((V >>> 8 : Nat) : Int) = ((byV V 1).toNat : Int) := hw 1
 have h0 : IntKind.u8.wrap (V : Int) = ((byV V 0).toNat : Int) := hw 0
 simp -implicitDefEqProofs (disch := (first | omega | (simp only [lq7] <;> omega) | fail)) only [admQ, lq7, aFill, AK.cls, implies_true, if_true, if_false, seval, -List.reduceReplicate, c75, r75, fdiv_nat, hV, h0, h1, h2, h3, h4, h5, h6, h7]
 exact ⟨.app _ _ _, m.length, by rw [numB_len], by rw [own_app_at0]; rfl, Nat.le_refl _⟩
theorem ans_pintZ {m : Mem} {x : AV} {l : List B8} (v : Int) (hx : RdB m x l) (hb : l.length ≤ 900000000) :
  Ans Tryz.prog 37 [x, .int .i64 v] m fun r m' => Kept [] m m' ∧ OwB m.length m' r (l ++ numI v) := by
 refine ans_ret mixed ok37 ?_
 simp -implicitDefEqProofs (disch := (first | omega | (simp only [lq7] <;> omega) | fail)) only [admQ, lq7, aFill, AK.cls, implies_true, if_true, if_false, seval, -List.reduceReplicate, c37, r37]
 refine (ans_peightZ v m).mono ?_
 rintro y m1 ⟨k1, g1⟩
 simp -implicitDefEqProofs (disch := (first | omega | (simp only [lq7] <;> omega) | fail)) only [admQ, lq7, aFill, AK.cls, implies_true, if_true, if_false, seval, -List.reduceReplicate]
 refine (ans_pbehind (hx.kept0 k1) g1.rd (by rw [numI_len]; omega)).mono ?_
 rintro r m2 ⟨k2, g2⟩
 simp -implicitDefEqProofs (disch := (first | omega | (simp only [lq7] <;> omega) | fail)) only [admQ, lq7, aFill, AK.cls, implies_true, if_true, if_false, seval, -List.reduceReplicate]
 obtain ⟨p, e, ho, hp⟩ := g2
 exact ⟨k1.trans k2, p, e, ho, Nat.le_trans k1.len hp⟩
theorem ans_psum {m : Mem} {x : AV} {l : List B8} (s : Sm) (hx : RdB m x l) (hb : l.length ≤ 900000000) :
  Ans Tryz.prog 112 [x, .agg (bys s.1)] m fun r m' => Kept [] m m' ∧ OwB m.length m' r (l ++ s.1) := by
 refine ans_ret mixed ok112 ?_
 have hs := s.2
 simp -implicitDefEqProofs (disch := (first | omega | (simp only [lq7] <;> omega) | fail)) only [admQ, lq7, aFill, AK.cls, implies_true, if_true, if_false, seval, -List.reduceReplicate, c112, r112]
 have k0 := Kept.app [] m [Blk.row (bys s.1) false]
 have hr := RdB.row (m := m ++ [Blk.row (bys s.1) false]) (l := s.1) 32 0 (rowOf_app_at0 m _) (by omega)
 rw [hs] at hr
 refine (ans_pbehind (hx.kept0 k0) hr (by omega)).mono ?_
 rintro r m1 ⟨k1, p, e, ho, hp⟩
 simp -implicitDefEqProofs (disch := (first | omega | (simp only [lq7] <;> omega) | fail)) only [admQ, lq7, aFill, AK.cls, implies_true, if_true, if_false, seval, -List.reduceReplicate]
 exact ⟨k0.trans k1, p, e, ho, by simp at hp; omega⟩
theorem ans_pref {m : Mem} {x : AV} {l : List B8} (r : Rf) (hx : RdB m x l) (hb : l.length ≤ 800000000) :
  Ans Tryz.prog 101 [x, .agg r.cells] m fun r' m' => Kept [] m m' ∧ OwB m.length m' r' (l ++ refB r) := by
 refine ans_ret mixed ok101 ?_
 have hs := r.sum.2
 unfold Rf.cells
 have k0 := Kept.app [] m [Blk.row (.int .i64 r.at_ :: bys r.sum.1) false]
 have o0 : own (m ++ [Blk.row (.int .i64 r.at_ :: bys r.sum.1) false]) m.length = some (.int .i64 r.at_ :: bys r.sum.1) := by rw [own_app_at0]; rfl
 simp -implicitDefEqProofs (disch := (first | omega | (simp only [lq7] <;> omega) | fail)) only [admQ, lq7, aFill, AK.cls, implies_true, if_true, if_false, seval, -List.reduceReplicate, c101, r101]
 generalize m ++ [Blk.row (.int .i64 r.at_ :: bys r.sum.1) false] = A at *
 refine (ans_pintZ r.at_ (hx.kept0 k0) (by omega)).mono ?_
 rintro x1 m1 ⟨k1, g1⟩
 have o1 := k1.own o0 (by simp)
 have htk : List.take 32 (bys r.sum.1) = bys r.sum.1 := List.take_of_length_le (by simp [hs])
 have hbl : (bys r.sum.1).length = 32 := by simp [hs]
 simp -implicitDefEqProofs (disch := (first | omega | (simp only [lq7] <;> omega) | fail)) only [admQ, lq7, aFill, AK.cls, implies_true, if_true, if_false, seval, -List.reduceReplicate, rowOf_own o0, rowOf_own o1, htk, hbl, List.drop_succ_cons, List.drop_zero]
 refine (ans_psum r.sum g1.rd (by rw [List.length_append, numI_len]; omega)).mono ?_
 rintro x2 m2 ⟨k2, p, e, ho, hp⟩
 simp -implicitDefEqProofs (disch := (first | omega | (simp only [lq7] <;> omega) | fail)) only [admQ, lq7, aFill, AK.cls, implies_true, if_true, if_false, seval, -List.reduceReplicate, rowOf_own o0, rowOf_own o1, rowOf_own (k2.own o1 (by simp)), htk, hbl, List.drop_succ_cons, List.drop_zero]
 have l0 := k0.len
 have l1 := k1.len
 rw [List.append_assoc] at e ho
 exact ⟨(k0.trans k1).trans k2, p, e, ho, by omega⟩
theorem ans_pleft {m : Mem} {r : Nat} {l : List B8} {bad : Bool} (h : Rdr2 m r l bad) : Ans Tryz.prog 84 [.ptr r 0] m fun v m' => v = .int .i64 (if bad = true then 0 else (l.length : Int)) ∧ m' = m := by
 obtain ⟨p, o, cap, sl, B, h1, h2, h3, h4⟩ := h
 refine ans_ret mixed ok84 ?_
 cases bad with
 | true => simp -implicitDefEqProofs (disch := (first | omega | (simp only [lq7] <;> omega) | fail)) only [admQ, lq7, aFill, AK.cls, implies_true, if_true, if_false, seval, -List.reduceReplicate, c84, r84, rowOf_own h1]
 | false => simp -implicitDefEqProofs (disch := (first | omega | (simp only [lq7] <;> omega) | fail)) only [admQ, lq7, aFill, AK.cls, implies_true, if_true, if_false, seval, -List.reduceReplicate, c84, r84, rowOf_own h1]
end Go.Proofs.YtehnkcnjmfbjpaaGreat
end
section
namespace Go.Proofs.YtehnkcnjmfbjpaaGreat
open Go Go.Adm
set_option linter.unusedSimpArgs false
set_option linter.unusedVariables false
set_option maxRecDepth 100000
theorem mul_le64 {a n A N : Int} (h1 : 0 ≤ a) (h2 : a ≤ A) (h3 : 0 ≤ n) (h4 : n ≤ N) : 0 ≤ a * n ∧ a * n ≤ A * N :=
 ⟨Int.mul_nonneg h1 h3, Int.mul_le_mul h2 h4 h3 (by omega)⟩
theorem ans_gsecs (g : Geo) (m : Mem) : Ans Tryz.prog 28 [geoV g] m fun r m' => r = .int .i64 (secsG g) ∧ Kept [] m m' := by
 refine ans_ret mixed ok28 ?_
 have hgm := fun M => ans_gmay g M
 unfold geoV geoC at hgm ⊢
 have k0 := Kept.app [] m [.row [.int .i64 g.s, .int .i64 g.n, .int .i64 g.b] false]
 have o0 : own (m ++ [.row [.int .i64 g.s, .int .i64 g.n, .int .i64 g.b] false]) m.length = some [.int .i64 g.s, .int .i64 g.n, .int .i64 g.b] := by rw [own_app_at0]; rfl
 simp -implicitDefEqProofs (disch := (first | omega | (simp only [lq3] <;> omega) | fail)) only [admQ, lq3, aFill, AK.cls, implies_true, if_true, if_false, seval, -List.reduceReplicate, c28, r28]
 generalize m ++ [.row [.int .i64 g.s, .int .i64 g.n, .int .i64 g.b] false] = A at *
 refine (hgm A).mono ?_
 rintro _ m1 ⟨rfl, k1⟩
 have o1 := k1.own o0 (by simp)
 by_cases hi : okG g
 ·have hb := hi.1
  unfold inG at hb
  have hm := mul_le64 (a := g.s) (n := g.n) (A := 32) (N := 64) (by omega) (by omega) (by omega) (by omega)
  have hw : IntKind.i64.wrap (g.s * g.n) = g.s * g.n := wrap_i64 (by omega) (by omega)
  rw [secsG, if_pos hi]
  simp -implicitDefEqProofs (disch := (first | omega | (simp only [lq3] <;> omega) | fail)) only [admQ, lq3, aFill, AK.cls, implies_true, if_true, if_false, seval, -List.reduceReplicate, dec_t hi, Bool.not_true, rowOf_own o1, hw]
  exact k0.trans k1
 ·rw [secsG, if_neg hi]
  simp -implicitDefEqProofs (disch := (first | omega | (simp only [lq3] <;> omega) | fail)) only [admQ, lq3, aFill, AK.cls, implies_true, if_true, if_false, seval, -List.reduceReplicate, dec_f hi, Bool.not_false]
  exact k0.trans k1
theorem ans_gat (g : Geo) (a b : Int) (m : Mem) : Ans Tryz.prog 43 [geoV g, .agg [.int .i64 a, .int .i64 b]] m fun r m' => r = .int .i64 (atG g a b) ∧ Kept [] m m' := by
 refine ans_ret mixed ok43 ?_
 have hgm := fun M => ans_gmay g M
 unfold geoV geoC at hgm ⊢
 have k0 := Kept.app [] m [.row [.int .i64 g.s, .int .i64 g.n, .int .i64 g.b] false, .row [.int .i64 a, .int .i64 b] false]
 have o0 : own (m ++ [.row [.int .i64 g.s, .int .i64 g.n, .int .i64 g.b] false, .row [.int .i64 a, .int .i64 b] false]) m.length = some [.int .i64 g.s, .int .i64 g.n, .int .i64 g.b] := by rw [own_app_at0]; rfl
 have p0 : own (m ++ [.row [.int .i64 g.s, .int .i64 g.n, .int .i64 g.b] false, .row [.int .i64 a, .int .i64 b] false]) (m.length + 1) = some [.int .i64 a, .int .i64 b] := by rw [own_app_at]; rfl
 simp -implicitDefEqProofs (disch := (first | omega | (simp only [lq3] <;> omega) | fail)) only [admQ, lq3, aFill, AK.cls, implies_true, if_true, if_false, seval, -List.reduceReplicate, c43, r43]
 generalize m ++ [.row [.int .i64 g.s, .int .i64 g.n, .int .i64 g.b] false, .row [.int .i64 a, .int .i64 b] false] = A at *
 refine (hgm A).mono ?_
 rintro _ m1 ⟨rfl, k1⟩
 have o1 := k1.own o0 (by simp)
 have p1 := k1.own p0 (by simp)
 have K1 := k0.trans k1
 by_cases hi : okG g
 ·have hb := hi.1
  unfold inG at hb
  simp -implicitDefEqProofs (disch := (first | omega | (simp only [lq3] <;> omega) | fail)) only [admQ, lq3, aFill, AK.cls, implies_true, if_true, if_false, seval, -List.reduceReplicate, dec_t hi, Bool.not_true, rowOf_own o1, rowOf_own p1]
  have k2 := Kept.app [] m1 [.row [.int .i64 a, .int .i64 0, .int .i64 (g.s - 1), .int .i64 b, .int .i64 0, .int .i64 (g.n - 1)] false]
  have q2 : own (m1 ++ [.row [.int .i64 a, .int .i64 0, .int .i64 (g.s - 1), .int .i64 b, .int .i64 0, .int .i64 (g.n - 1)] false]) m1.length = some [.int .i64 a, .int .i64 0, .int .i64 (g.s - 1), .int .i64 b, .int .i64 0, .int .i64 (g.n - 1)] := by rw [own_app_at0]; rfl
  generalize m1 ++ [.row [.int .i64 a, .int .i64 0, .int .i64 (g.s - 1), .int .i64 b, .int .i64 0, .int .i64 (g.n - 1)] false] = B at *
  refine (ans_gwithin (L := [(a, 0, g.s - 1), (b, 0, g.n - 1)]) (rowOf_own q2) rfl (show 2 ≤ 1000 by omega) (fun i t ht => ?_)).mono ?_
  ·have hi := lt_of_get ht
   simp only [List.length_cons, List.length_nil] at hi
   match i, hi with
   | 0, _ => cases ht; exact ⟨rfl, rfl, rfl⟩
   | 1, _ => cases ht; exact ⟨rfl, rfl, rfl⟩
  rintro _ m3 ⟨rfl, k3⟩
  have o3 := (k2.trans k3).own o1 (by simp)
  have p3 := (k2.trans k3).own p1 (by simp)
  have K3 := K1.trans (k2.trans k3)
  by_cases hin : (0 ≤ a ∧ a ≤ g.s - 1) ∧ 0 ≤ b ∧ b ≤ g.n - 1
  ·have e : [(a, (0 : Int), g.s - 1), (b, 0, g.n - 1)].all spanP = true := by simp [spanP]; omega
   have hm := mul_le64 (a := a) (n := g.n) (A := 32) (N := 64) (by omega) (by omega) (by omega) (by omega)
   have hw : IntKind.i64.wrap (a * g.n) = a * g.n := wrap_i64 (by omega) (by omega)
   have hw2 : IntKind.i64.wrap (3 + a * g.n) = 3 + a * g.n := wrap_i64 (by omega) (by omega)
   have hw3 : IntKind.i64.wrap (3 + a * g.n + b) = 3 + a * g.n + b := wrap_i64 (by omega) (by omega)
   rw [e, atG, if_pos ⟨hi, hin⟩]
   simp -implicitDefEqProofs (disch := (first | omega | (simp only [lq3] <;> omega) | fail)) only [admQ, lq3, aFill, AK.cls, implies_true, if_true, if_false, seval, -List.reduceReplicate, Bool.not_true, rowOf_own o3, rowOf_own p3, hw, hw2, hw3]
   exact K3
  ·have e : [(a, (0 : Int), g.s - 1), (b, 0, g.n - 1)].all spanP = false := by
    rw [Bool.eq_false_iff]; intro h; simp [spanP] at h; omega
   rw [e, atG, if_neg (fun h => hin h.2)]
   simp -implicitDefEqProofs (disch := (first | omega | (simp only [lq3] <;> omega) | fail)) only [admQ, lq3, aFill, AK.cls, implies_true, if_true, if_false, seval, -List.reduceReplicate, Bool.not_false]
   exact K3
 ·rw [atG, if_neg (fun h => hi h.1)]
  simp -implicitDefEqProofs (disch := (first | omega | (simp only [lq3] <;> omega) | fail)) only [admQ, lq3, aFill, AK.cls, implies_true, if_true, if_false, seval, -List.reduceReplicate, dec_f hi, Bool.not_false]
  exact K1
theorem ans_gplace (g : Geo) (a : Int) (m : Mem) : Ans Tryz.prog 13 [geoV g, .int .i64 a] m fun r m' => r = .tup [.agg [.int .i64 (plG g a).1, .int .i64 (plG g a).2], .bool (decide (plB g a))] ∧ Kept [] m m' := by
 refine ans_ret mixed ok13 ?_
 have hgs := fun M => ans_gsecs g M
 unfold geoV geoC at hgs ⊢
 have k0 := Kept.app [] m [.row [.int .i64 g.s, .int .i64 g.n, .int .i64 g.b] false, .row [.int .i64 0, .int .i64 0] false]
 have o0 : own (m ++ [.row [.int .i64 g.s, .int .i64 g.n, .int .i64 g.b] false, .row [.int .i64 0, .int .i64 0] false]) m.length = some [.int .i64 g.s, .int .i64 g.n, .int .i64 g.b] := by rw [own_app_at0]; rfl
 have p0 : own (m ++ [.row [.int .i64 g.s, .int .i64 g.n, .int .i64 g.b] false, .row [.int .i64 0, .int .i64 0] false]) (m.length + 1) = some [.int .i64 0, .int .i64 0] := by rw [own_app_at]; rfl
 simp -implicitDefEqProofs (disch := (first | omega | (simp only [lq3] <;> omega) | fail)) only [admQ, lq3, aFill, AK.cls, implies_true, if_true, if_false, seval, -List.reduceReplicate, c13, r13]
 generalize m ++ [.row [.int .i64 g.s, .int .i64 g.n, .int .i64 g.b] false, .row [.int .i64 0, .int .i64 0] false] = A at *
 refine (hgs A).mono ?_
 rintro _ m1 ⟨rfl, k1⟩
 have o1 := k1.own o0 (by simp)
 have p1 := k1.own p0 (by simp)
 have K1 := k0.trans k1
 have hsl : secsG g = 0 ∨ (3 ≤ secsG g ∧ secsG g ≤ 3000) := by
  unfold secsG
  split
  ·rename_i hi
   have hb := hi.1
   unfold inG at hb
   have hm := mul_le64 (a := g.s) (n := g.n) (A := 32) (N := 64) (by omega) (by omega) (by omega) (by omega)
   omega
  ·exact .inl rfl
 simp -implicitDefEqProofs (disch := (first | omega | (simp only [lq3] <;> omega) | fail)) only [admQ, lq3, aFill, AK.cls, implies_true, if_true, if_false, seval, -List.reduceReplicate]
 have k2 := Kept.app [] m1 [.row [.int .i64 a, .int .i64 3, .int .i64 (secsG g - 1)] false]
 have q2 : own (m1 ++ [.row [.int .i64 a, .int .i64 3, .int .i64 (secsG g - 1)] false]) m1.length = some [.int .i64 a, .int .i64 3, .int .i64 (secsG g - 1)] := by rw [own_app_at0]; rfl
 generalize m1 ++ [.row [.int .i64 a, .int .i64 3, .int .i64 (secsG g - 1)] false] = B at *
 refine (ans_gwithin (L := [(a, 3, secsG g - 1)]) (rowOf_own q2) rfl (show 1 ≤ 1000 by omega) (fun i t ht => ?_)).mono ?_
 ·have hi := lt_of_get ht
  simp only [List.length_cons, List.length_nil] at hi
  match i, hi with
  | 0, _ => cases ht; exact ⟨rfl, rfl, rfl⟩
 rintro _ m3 ⟨rfl, k3⟩
 have o3 := (k2.trans k3).own o1 (by simp)
 have p3 := (k2.trans k3).own p1 (by simp)
 have K3 := K1.trans (k2.trans k3)
 have l1 := K1.len
 have l3 := k3.len
 have l2 := k2.len
 by_cases hin : plB g a
 ·have e : [(a, (3 : Int), secsG g - 1)].all spanP = true := by unfold plB at hin; simp [spanP]; omega
  have hin' := hin
  unfold plB at hin'
  have hg : okG g := by
   apply Decidable.byContradiction
   intro h
   have : secsG g = 0 := if_neg h
   omega
  have hb := hg.1
  unfold inG at hb
  obtain ⟨A', rfl⟩ : ∃ k : Nat, a = k := ⟨a.toNat, by omega⟩
  obtain ⟨s, n, b⟩ := g
  simp only at *
  obtain ⟨n, rfl⟩ : ∃ k : Nat, n = k := ⟨n.toNat, by omega⟩
  rw [e, plG, if_pos hin, dec_t hin]
  have hw0 : ∀ q : Nat, q ≤ 3000 → IntKind.i64.wrap (q : Int) = q := fun q h => wrap_i64 (by omega) (by omega)
  have hq : (A' - 3) / n ≤ A' - 3 := Nat.div_le_self _ _
  have hw : IntKind.i64.wrap (((A' - 3) / n : Nat) : Int) = (((A' - 3) / n : Nat) : Int) := hw0 _ (Nat.le_trans hq (by omega))
  have t3 := own_set (own_lt p3) [.int .i64 (((A' - 3) / n : Nat) : Int), .int .i64 (((A' - 3) % n : Nat) : Int)]
  simp -implicitDefEqProofs (disch := (first | omega | (simp only [lq3] <;> omega) | fail)) only [admQ, lq3, aFill, AK.cls, implies_true, if_true, if_false, seval, -List.reduceReplicate, Bool.not_true, rowOf_own o3, o3, p3, hw, rowOf_own t3]
  have fin := K3.write (q := m.length + 1) (.inr (by omega)) (.row [.int .i64 (((A' - 3) / n : Nat) : Int), .int .i64 (((A' - 3) % n : Nat) : Int)] false)
  first | exact ⟨rfl, fin⟩ | exact ⟨by simp, fin⟩ | exact fin
 ·have e : [(a, (3 : Int), secsG g - 1)].all spanP = false := by
   rw [Bool.eq_false_iff]; intro h; unfold plB at hin; simp [spanP] at h; omega
  rw [e, plG, if_neg hin, dec_f hin]
  have t3 := own_set (own_lt p3) [.int .i64 0, .int .i64 0]
  simp -implicitDefEqProofs (disch := (first | omega | (simp only [lq3] <;> omega) | fail)) only [admQ, lq3, aFill, AK.cls, implies_true, if_true, if_false, seval, -List.reduceReplicate, Bool.not_false, p3, rowOf_own t3]
  exact K3.write (.inr (by omega)) _
end Go.Proofs.YtehnkcnjmfbjpaaGreat
end
section
namespace Go.Proofs.YtehnkcnjmfbjpaaGreat
open Go Go.Adm
set_option linter.unusedSimpArgs false
set_option linter.unusedVariables false
set_option maxRecDepth 100000
def lq8 := And.intro @lenB (And.intro @lowB_len (And.intro @numB_len (And.intro @nsumB_len (And.intro @numI_len (@Ent.cells_len)))))
theorem ans_btwithin (x a b : Int) (m : Mem) : Ans Tryz.prog 119 [.int .i64 x, .int .i64 a, .int .i64 b] m fun r m' => r = .bool (decide (a ≤ x ∧ x ≤ b)) ∧ m' = m := by
 refine ans_ret mixed ok119 ?_
 by_cases h1 : x ≥ a
 ·by_cases h2 : x ≤ b
  ·simp -implicitDefEqProofs (disch := (first | omega | (simp only [lq8] <;> omega) | fail)) only [admQ, lq8, aFill, AK.cls, implies_true, if_true, if_false, seval, -List.reduceReplicate, c119, r119, dec_t h1, dec_t h2, dec_t (show a ≤ x ∧ x ≤ b from ⟨h1, h2⟩)]
  ·simp -implicitDefEqProofs (disch := (first | omega | (simp only [lq8] <;> omega) | fail)) only [admQ, lq8, aFill, AK.cls, implies_true, if_true, if_false, seval, -List.reduceReplicate, c119, r119, dec_t h1, dec_f h2, dec_f (show ¬ (a ≤ x ∧ x ≤ b) from fun h => h2 h.2)]
 ·simp -implicitDefEqProofs (disch := (first | omega | (simp only [lq8] <;> omega) | fail)) only [admQ, lq8, aFill, AK.cls, implies_true, if_true, if_false, seval, -List.reduceReplicate, c119, r119, dec_f h1, dec_f (show ¬ (a ≤ x ∧ x ≤ b) from fun h => h1 h.1)]
theorem ans_btplaced (e : Ent) (m : Mem) : Ans Tryz.prog 120 [.agg e.cells] m fun r m' => r = .bool (decide e.placed) ∧ Kept [] m m' := by
 refine ans_ret mixed ok120 ?_
 have hs := e.sum.2
 unfold Ent.cells
 have k0 := Kept.app [] m [Blk.row (.int .i64 e.k :: .int .i64 e.b :: .int .i64 e.s :: bys e.sum.1) false]
 have o0 : own (m ++ [Blk.row (.int .i64 e.k :: .int .i64 e.b :: .int .i64 e.s :: bys e.sum.1) false]) m.length = some (.int .i64 e.k :: .int .i64 e.b :: .int .i64 e.s :: bys e.sum.1) := by rw [own_app_at0]; rfl
 have htk : List.take 32 (bys e.sum.1) = bys e.sum.1 := List.take_of_length_le (by simp [hs])
 have hdr : List.drop 3 (.int .i64 e.k :: .int .i64 e.b :: .int .i64 e.s :: bys e.sum.1) = bys e.sum.1 := rfl
 have hbl : (bys e.sum.1).length = 32 := by simp [hs]
 have hz : (List.replicate 32 0#8).length = 32 := by simp
 by_cases h3 : e.k = 3
 ·simp -implicitDefEqProofs (disch := (first | omega | (simp only [lq8] <;> omega) | fail)) only [admQ, lq8, aFill, AK.cls, implies_true, if_true, if_false, seval, -List.reduceReplicate, c120, r120, beq_iff_eq.mpr h3]
  generalize m ++ [Blk.row (.int .i64 e.k :: .int .i64 e.b :: .int .i64 e.s :: bys e.sum.1) false] = A at *
  refine (ans_btwithin _ _ _ _).mono ?_
  rintro _ M ⟨rfl, hM⟩
  subst hM
  by_cases h1 : 0 ≤ e.b ∧ e.b ≤ 8
  ·simp -implicitDefEqProofs (disch := (first | omega | (simp only [lq8] <;> omega) | fail)) only [admQ, lq8, aFill, AK.cls, implies_true, if_true, if_false, seval, -List.reduceReplicate, dec_t h1, Bool.not_true, rowOf_own o0]
   refine (ans_btwithin _ _ _ _).mono ?_
   rintro _ M ⟨rfl, hM⟩
   subst hM
   by_cases h2 : 0 ≤ e.s ∧ e.s ≤ 63
   ·by_cases hk : e.k = 2
    ·by_cases h4 : e.s = 0
     ·by_cases h5 : e.sum = Sm.zero
      ·have h6 : (e.sum.1 == List.replicate 32 0#8) = true := by rw [h5]; rfl
       simp -implicitDefEqProofs (disch := (first | omega | (simp only [lq8] <;> omega) | fail)) only [admQ, lq8, aFill, AK.cls, implies_true, if_true, if_false, seval, -List.reduceReplicate, dec_t h2, Bool.not_true, rowOf_own o0, dec_f (show ¬ (e.k ≠ 2) from fun h => h hk), beq_iff_eq.mpr hk, Bool.not_false, beq_iff_eq.mpr h4, htk, hdr, hbl, aEq_bys e.sum.1 _ hs hz, h6]
       exact ⟨by rw [dec_t (show e.placed from ⟨⟨by rw [if_pos h3]; omega, h2⟩, fun _ => ⟨h4, h5⟩⟩)], k0⟩
      ·have h6 : (e.sum.1 == List.replicate 32 0#8) = false := beq_eq_false_iff_ne.mpr fun h => h5 (Subtype.ext h)
       simp -implicitDefEqProofs (disch := (first | omega | (simp only [lq8] <;> omega) | fail)) only [admQ, lq8, aFill, AK.cls, implies_true, if_true, if_false, seval, -List.reduceReplicate, dec_t h2, Bool.not_true, rowOf_own o0, beq_iff_eq.mpr hk, Bool.not_false, beq_iff_eq.mpr h4, htk, hdr, hbl, aEq_bys e.sum.1 _ hs hz, h6]
       exact ⟨by rw [dec_f (show ¬ e.placed from fun h => h5 (h.2 hk).2)], k0⟩
     ·simp -implicitDefEqProofs (disch := (first | omega | (simp only [lq8] <;> omega) | fail)) only [admQ, lq8, aFill, AK.cls, implies_true, if_true, if_false, seval, -List.reduceReplicate, dec_t h2, Bool.not_true, rowOf_own o0, beq_iff_eq.mpr hk, Bool.not_false, beq_eq_false_iff_ne.mpr h4]
      exact ⟨by rw [dec_f (show ¬ e.placed from fun h => h4 (h.2 hk).1)], k0⟩
    ·simp -implicitDefEqProofs (disch := (first | omega | (simp only [lq8] <;> omega) | fail)) only [admQ, lq8, aFill, AK.cls, implies_true, if_true, if_false, seval, -List.reduceReplicate, dec_t h2, Bool.not_true, rowOf_own o0, beq_eq_false_iff_ne.mpr hk, Bool.not_false]
     exact ⟨by rw [dec_t (show e.placed from ⟨⟨by rw [if_pos h3]; omega, h2⟩, fun h => absurd h hk⟩)], k0⟩
   ·simp -implicitDefEqProofs (disch := (first | omega | (simp only [lq8] <;> omega) | fail)) only [admQ, lq8, aFill, AK.cls, implies_true, if_true, if_false, seval, -List.reduceReplicate, dec_f h2, Bool.not_false]
    exact ⟨by rw [dec_f (show ¬ e.placed from fun h => h2 h.1.2)], k0⟩
  ·simp -implicitDefEqProofs (disch := (first | omega | (simp only [lq8] <;> omega) | fail)) only [admQ, lq8, aFill, AK.cls, implies_true, if_true, if_false, seval, -List.reduceReplicate, dec_f h1, Bool.not_false]
   exact ⟨by rw [dec_f (show ¬ e.placed from fun h => h1 (by have := h.1.1; rw [if_pos h3] at this; omega))], k0⟩
 ·simp -implicitDefEqProofs (disch := (first | omega | (simp only [lq8] <;> omega) | fail)) only [admQ, lq8, aFill, AK.cls, implies_true, if_true, if_false, seval, -List.reduceReplicate, c120, r120, beq_eq_false_iff_ne.mpr h3]
  generalize m ++ [Blk.row (.int .i64 e.k :: .int .i64 e.b :: .int .i64 e.s :: bys e.sum.1) false] = A at *
  refine (ans_btwithin _ _ _ _).mono ?_
  rintro _ M ⟨rfl, hM⟩
  subst hM
  by_cases h1 : 0 ≤ e.b ∧ e.b ≤ 63
  ·simp -implicitDefEqProofs (disch := (first | omega | (simp only [lq8] <;> omega) | fail)) only [admQ, lq8, aFill, AK.cls, implies_true, if_true, if_false, seval, -List.reduceReplicate, dec_t h1, Bool.not_true, rowOf_own o0]
   refine (ans_btwithin _ _ _ _).mono ?_
   rintro _ M ⟨rfl, hM⟩
   subst hM
   by_cases h2 : 0 ≤ e.s ∧ e.s ≤ 63
   ·by_cases hk : e.k = 2
    ·by_cases h4 : e.s = 0
     ·by_cases h5 : e.sum = Sm.zero
      ·have h6 : (e.sum.1 == List.replicate 32 0#8) = true := by rw [h5]; rfl
       simp -implicitDefEqProofs (disch := (first | omega | (simp only [lq8] <;> omega) | fail)) only [admQ, lq8, aFill, AK.cls, implies_true, if_true, if_false, seval, -List.reduceReplicate, dec_t h2, Bool.not_true, rowOf_own o0, dec_f (show ¬ (e.k ≠ 2) from fun h => h hk), beq_iff_eq.mpr hk, Bool.not_false, beq_iff_eq.mpr h4, htk, hdr, hbl, aEq_bys e.sum.1 _ hs hz, h6]
       exact ⟨by rw [dec_t (show e.placed from ⟨⟨by rw [if_neg h3]; omega, h2⟩, fun _ => ⟨h4, h5⟩⟩)], k0⟩
      ·have h6 : (e.sum.1 == List.replicate 32 0#8) = false := beq_eq_false_iff_ne.mpr fun h => h5 (Subtype.ext h)
       simp -implicitDefEqProofs (disch := (first | omega | (simp only [lq8] <;> omega) | fail)) only [admQ, lq8, aFill, AK.cls, implies_true, if_true, if_false, seval, -List.reduceReplicate, dec_t h2, Bool.not_true, rowOf_own o0, beq_iff_eq.mpr hk, Bool.not_false, beq_iff_eq.mpr h4, htk, hdr, hbl, aEq_bys e.sum.1 _ hs hz, h6]
       exact ⟨by rw [dec_f (show ¬ e.placed from fun h => h5 (h.2 hk).2)], k0⟩
     ·simp -implicitDefEqProofs (disch := (first | omega | (simp only [lq8] <;> omega) | fail)) only [admQ, lq8, aFill, AK.cls, implies_true, if_true, if_false, seval, -List.reduceReplicate, dec_t h2, Bool.not_true, rowOf_own o0, beq_iff_eq.mpr hk, Bool.not_false, beq_eq_false_iff_ne.mpr h4]
      exact ⟨by rw [dec_f (show ¬ e.placed from fun h => h4 (h.2 hk).1)], k0⟩
    ·simp -implicitDefEqProofs (disch := (first | omega | (simp only [lq8] <;> omega) | fail)) only [admQ, lq8, aFill, AK.cls, implies_true, if_true, if_false, seval, -List.reduceReplicate, dec_t h2, Bool.not_true, rowOf_own o0, beq_eq_false_iff_ne.mpr hk, Bool.not_false]
     exact ⟨by rw [dec_t (show e.placed from ⟨⟨by rw [if_neg h3]; omega, h2⟩, fun h => absurd h hk⟩)], k0⟩
   ·simp -implicitDefEqProofs (disch := (first | omega | (simp only [lq8] <;> omega) | fail)) only [admQ, lq8, aFill, AK.cls, implies_true, if_true, if_false, seval, -List.reduceReplicate, dec_f h2, Bool.not_false]
    exact ⟨by rw [dec_f (show ¬ e.placed from fun h => h2 h.1.2)], k0⟩
  ·simp -implicitDefEqProofs (disch := (first | omega | (simp only [lq8] <;> omega) | fail)) only [admQ, lq8, aFill, AK.cls, implies_true, if_true, if_false, seval, -List.reduceReplicate, dec_f h1, Bool.not_false]
   exact ⟨by rw [dec_f (show ¬ e.placed from fun h => h1 (by have := h.1.1; rw [if_neg h3] at this; omega))], k0⟩
def smyC (s : Smy) (en : AV) : List AV := .int .i64 s.stamp :: (bys s.prev.1 ++ [.int .i64 s.next, en])
def smyV (s : Smy) (en : AV) : AV := .agg (smyC s en)
theorem smyC_len (s : Smy) (en : AV) : (smyC s en).length = 35 := by simp [smyC, s.prev.2]
theorem smyC_0 (s : Smy) (en : AV) : (smyC s en)[0]? = some (.int .i64 s.stamp) := rfl
theorem smyC_33 (s : Smy) (en : AV) : (smyC s en)[33]? = some (.int .i64 s.next) := by
 show (bys s.prev.1 ++ [.int .i64 s.next, en])[32]? = _
 rw [List.getElem?_append_right (by simp [s.prev.2])]; simp [s.prev.2]
theorem smyC_34 (s : Smy) (en : AV) : (smyC s en)[34]? = some en := by
 show (bys s.prev.1 ++ [.int .i64 s.next, en])[33]? = _
 rw [List.getElem?_append_right (by simp [s.prev.2])]; simp [s.prev.2]
theorem smyC_t1 (s : Smy) (en : AV) : List.take 32 (List.drop 1 (smyC s en)) = bys s.prev.1 := by
 show List.take 32 (bys s.prev.1 ++ [.int .i64 s.next, en]) = _
 exact List.take_left' (by simp [s.prev.2])
theorem smyC_all (s : Smy) (en : AV) : List.take 35 (smyC s en) = smyC s en := List.take_of_length_le (by rw [smyC_len]; omega)
theorem Ent.c0 (e : Ent) : e.cells[0]? = some (.int .i64 e.k) := rfl
theorem Ent.c1 (e : Ent) : e.cells[1]? = some (.int .i64 e.b) := rfl
theorem Ent.c2 (e : Ent) : e.cells[2]? = some (.int .i64 e.s) := rfl
theorem Ent.all (e : Ent) : List.take 35 e.cells = e.cells := List.take_of_length_le (by rw [e.cells_len]; omega)
theorem Ent.t3 (e : Ent) : List.take 32 (List.drop 3 e.cells) = bys e.sum.1 := List.take_of_length_le (by show (bys e.sum.1).length ≤ 32; simp [e.sum.2])
theorem Ent.sp (e : Ent) : splice (.int .i64 0 :: .int .i64 0 :: .int .i64 0 :: bys (List.replicate 32 0#8)) 0 e.cells = e.cells := by
 have := e.cells_len
 simp [splice, this]
theorem ent_at {m : Mem} {en : AV} {l : List Ent} (he : GrL Ent.cells 35 0 m en l) {i : Nat} (hi : i < l.length) : ∃ b s, en = .sl b 0 l.length l.length s ∧ own m b = some (flatOf Ent.cells l) ∧ List.take 35 (List.drop (i * 35) (flatOf Ent.cells l)) = l[i].cells ∧ i * 35 + 35 ≤ (flatOf Ent.cells l).length := by
 obtain ⟨b, s, e, -, ho, -⟩ := he.sl_at hi
 exact ⟨b, s, e, ho, flatOf_get Ent.cells_len l i hi, by rw [flatOf_length Ent.cells_len]; omega⟩
theorem ans_btcheck {m : Mem} {s : Smy} {en : AV} (he : GrL Ent.cells 35 0 m en s.ents) (hl : s.ents.length ≤ 1000) : Ans Tryz.prog 111 [smyV s en] m fun r m' => r = .int .i64 (smyE s) ∧ Kept [] m m' := by
 refine ans_ret mixed ok111 ?_
 unfold smyV
 have k0 := Kept.app [] m [Blk.row (smyC s en) false]
 have o0 : own (m ++ [Blk.row (smyC s en) false]) m.length = some (smyC s en) := by rw [own_app_at0]; rfl
 have h0 := smyC_len s en
 have hlen := he.len
 by_cases h16 : s.ents.length > 16
 ·simp -implicitDefEqProofs (disch := (first | omega | (simp only [lq8] <;> omega) | fail)) only [admQ, lq8, aFill, AK.cls, implies_true, if_true, if_false, seval, -List.reduceReplicate, c111, r111, rowOf_own o0, h0, smyC_34, hlen, dec_t (show (s.ents.length : Int) > 16 by omega)]
  exact ⟨by rw [smyE, if_pos h16], k0⟩
 simp -implicitDefEqProofs (disch := (first | omega | (simp only [lq8] <;> omega) | fail)) only [admQ, lq8, aFill, AK.cls, implies_true, if_true, if_false, seval, -List.reduceReplicate, c111, r111, rowOf_own o0, h0, smyC_34, smyC_0, hlen, dec_f (show ¬ (s.ents.length : Int) > 16 by omega)]
 generalize m ++ [Blk.row (smyC s en) false] = A at *
 refine (ans_btwithin _ _ _ _).mono ?_
 rintro _ M ⟨rfl, hM⟩
 subst hM
 by_cases h1 : 0 ≤ s.stamp ∧ s.stamp ≤ 1099511627776
 ·simp -implicitDefEqProofs (disch := (first | omega | (simp only [lq8] <;> omega) | fail)) only [admQ, lq8, aFill, AK.cls, implies_true, if_true, if_false, seval, -List.reduceReplicate, dec_t h1, Bool.not_true, rowOf_own o0, h0, smyC_33]
  refine (ans_btwithin _ _ _ _).mono ?_
  rintro _ M ⟨rfl, hM⟩
  subst hM
  by_cases h2 : -1 ≤ s.next ∧ s.next ≤ 31
  ·have hE : smyE s = chkL (-1) s.ents := by rw [smyE, if_neg h16, if_neg (by omega)]
   rw [hE]
   have heA := he.kept0 k0
   simp -implicitDefEqProofs (disch := (first | omega | (simp only [lq8] <;> omega) | fail)) only [admQ, lq8, aFill, AK.cls, implies_true, if_true, if_false, seval, -List.reduceReplicate, dec_t h2, Bool.not_true, rowOf_own o0, h0, smyC_34, heA.len]
   refine LoopW.on (fun t : Nat × Int => [(3, .int .i64 t.2), (23, en), (24, .int .i64 s.ents.length), (25, .int .i64 t.1)]) (fun t => s.ents.length - t.1)
    (fun t M' => t.1 ≤ s.ents.length ∧ Kept [] m M' ∧ chkL (-1) s.ents = chkL t.2 (s.ents.drop t.1) ∧ -1 ≤ t.2 ∧ t.2 ≤ 63) ?_ (0, -1) _ _ rfl ⟨by omega, k0, rfl, by omega, by omega⟩
   rintro ⟨i, last⟩ M2 X ⟨hi, kk, hch, hb1, hb2⟩ hX
   simp only at hi hch hb1 hb2
   by_cases hlt : i < s.ents.length
   ·obtain ⟨b, sc, rfl, ho, ht, hle⟩ := ent_at he hlt
    have hr := kk.own ho (by simp)
    have hdrop : s.ents.drop i = s.ents[i] :: s.ents.drop (i + 1) := (List.getElem_cons_drop ..).symm
    rw [hdrop] at hch
    generalize s.ents[i] = e at *
    have el := e.cells_len
    have k3 := Kept.app [] M2 [Blk.row e.cells false]
    have o3 : own (M2 ++ [Blk.row e.cells false]) M2.length = some e.cells := by rw [own_app_at0]; rfl
    simp -implicitDefEqProofs (disch := (first | omega | (simp only [lq8] <;> omega) | fail)) only [admQ, lq8, aFill, AK.cls, implies_true, if_true, if_false, seval, -List.reduceReplicate, rowOf_own hr, ht, hle, el, Ent.sp, Ent.c0, rowOf_own o3]
    generalize M2 ++ [Blk.row e.cells false] = A2 at *
    have K3 := kk.trans k3
    refine (ans_btwithin _ _ _ _).mono ?_
    rintro _ M ⟨rfl, hM⟩
    subst hM
    by_cases q1 : 1 ≤ e.k ∧ e.k ≤ 3
    ·simp -implicitDefEqProofs (disch := (first | omega | (simp only [lq8] <;> omega) | fail)) only [admQ, lq8, aFill, AK.cls, implies_true, if_true, if_false, seval, -List.reduceReplicate, dec_t q1, Bool.not_true, rowOf_own o3, el, Ent.all]
     refine (ans_btplaced e _).mono ?_
     rintro _ m4 ⟨rfl, k4⟩
     have o4 := k4.own o3 (by simp)
     have K4 := K3.trans k4
     by_cases q2 : e.placed
     ·have hs2 := q2.1.2
      by_cases q3 : e.k = 2
      ·simp -implicitDefEqProofs (disch := (first | omega | (simp only [lq8] <;> omega) | fail)) only [admQ, lq8, aFill, AK.cls, implies_true, if_true, if_false, seval, -List.reduceReplicate, dec_t q2, Bool.not_true, rowOf_own o4, Ent.c0, beq_iff_eq.mpr q3]
       exact hX (i + 1, last) _ _ rfl (by simp only; omega) ⟨by simp only; omega, K4, by rw [hch, chkL, if_neg (by simpa using q1), if_neg (by simpa using q2), if_pos q3], hb1, hb2⟩
      ·have hst : chkL last (e :: List.drop (i + 1) s.ents) = if 0 ≤ last ∧ e.s ≠ last + 1 then 8 else chkL e.s (List.drop (i + 1) s.ents) := by rw [chkL, if_neg (by simpa using q1), if_neg (by simpa using q2), if_neg q3]
       rw [hst] at hch
       by_cases q4 : last ≥ 0
       ·by_cases q5 : e.s = last + 1
        ·simp -implicitDefEqProofs (disch := (first | omega | (simp only [lq8] <;> omega) | fail)) only [admQ, lq8, aFill, AK.cls, implies_true, if_true, if_false, seval, -List.reduceReplicate, dec_t q2, Bool.not_true, rowOf_own o4, Ent.c0, Ent.c2, beq_eq_false_iff_ne.mpr q3, dec_t q4, beq_iff_eq.mpr q5]
         exact hX (i + 1, e.s) _ _ rfl (by simp only; omega) ⟨by simp only; omega, K4, by rw [hch, if_neg (by omega)], by simp only; omega, by simp only; omega⟩
        ·simp -implicitDefEqProofs (disch := (first | omega | (simp only [lq8] <;> omega) | fail)) only [admQ, lq8, aFill, AK.cls, implies_true, if_true, if_false, seval, -List.reduceReplicate, dec_t q2, Bool.not_true, rowOf_own o4, Ent.c0, Ent.c2, beq_eq_false_iff_ne.mpr q3, dec_t q4, beq_eq_false_iff_ne.mpr q5]
         exact ⟨by rw [hch, if_pos ⟨q4, q5⟩], K4⟩
       ·simp -implicitDefEqProofs (disch := (first | omega | (simp only [lq8] <;> omega) | fail)) only [admQ, lq8, aFill, AK.cls, implies_true, if_true, if_false, seval, -List.reduceReplicate, dec_t q2, Bool.not_true, rowOf_own o4, Ent.c0, Ent.c2, beq_eq_false_iff_ne.mpr q3, dec_f q4]
        exact hX (i + 1, e.s) _ _ rfl (by simp only; omega) ⟨by simp only; omega, K4, by rw [hch, if_neg (by omega)], by simp only; omega, by simp only; omega⟩
     ·simp -implicitDefEqProofs (disch := (first | omega | (simp only [lq8] <;> omega) | fail)) only [admQ, lq8, aFill, AK.cls, implies_true, if_true, if_false, seval, -List.reduceReplicate, dec_f q2, Bool.not_false]
      exact ⟨by rw [hch, chkL, if_neg (by simpa using q1), if_pos q2], K4⟩
    ·simp -implicitDefEqProofs (disch := (first | omega | (simp only [lq8] <;> omega) | fail)) only [admQ, lq8, aFill, AK.cls, implies_true, if_true, if_false, seval, -List.reduceReplicate, dec_f q1, Bool.not_false]
     exact ⟨by rw [hch, chkL, if_pos q1], K3⟩
   ·obtain rfl : i = s.ents.length := by omega
    rw [List.drop_length] at hch
    simp -implicitDefEqProofs (disch := (first | omega | (simp only [lq8] <;> omega) | fail)) only [admQ, lq8, aFill, AK.cls, implies_true, if_true, if_false, seval, -List.reduceReplicate]
    exact ⟨by rw [hch]; rfl, kk⟩
  ·simp -implicitDefEqProofs (disch := (first | omega | (simp only [lq8] <;> omega) | fail)) only [admQ, lq8, aFill, AK.cls, implies_true, if_true, if_false, seval, -List.reduceReplicate, dec_f h2, Bool.not_false]
   exact ⟨by rw [smyE, if_neg h16, if_pos (.inr h2)], k0⟩
 ·simp -implicitDefEqProofs (disch := (first | omega | (simp only [lq8] <;> omega) | fail)) only [admQ, lq8, aFill, AK.cls, implies_true, if_true, if_false, seval, -List.reduceReplicate, dec_f h1, Bool.not_false]
  exact ⟨by rw [smyE, if_neg h16, if_pos (.inl h1)], k0⟩
theorem ents_len (l : List Ent) : (l.flatMap Ent.by).length = 56 * l.length := by
 induction l with
 | nil => rfl
 | cons e l ih => rw [List.flatMap_cons, List.length_append, ih, Ent.by_len, List.length_cons]; omega
theorem smyR_len (s : Smy) : (smyR s).length = 56 + 56 * s.ents.length := by
 simp only [smyR, List.length_append, numI_len, s.prev.2, ents_len]
theorem ans_btput {m : Mem} {s : Smy} {en : AV} (he : GrL Ent.cells 35 0 m en s.ents) (hl : s.ents.length ≤ 1000) : Ans Tryz.prog 89 [smyV s en] m fun r m' => Kept [] m m' ∧ ∃ w, r = .tup [w, .int .i64 (smyE s)] ∧ RdB m' w (smyB s) ∧ ∀ q ∈ blkOf w, m.length ≤ q := by
 refine ans_ret mixed ok89 ?_
 unfold smyV
 have k0 := Kept.app [] m [Blk.row (smyC s en) false]
 have o0 : own (m ++ [Blk.row (smyC s en) false]) m.length = some (smyC s en) := by rw [own_app_at0]; rfl
 have h0 := smyC_len s en
 simp -implicitDefEqProofs (disch := (first | omega | (simp only [lq8] <;> omega) | fail)) only [admQ, lq8, aFill, AK.cls, implies_true, if_true, if_false, seval, -List.reduceReplicate, c89, r89, rowOf_own o0, h0, smyC_all]
 generalize m ++ [Blk.row (smyC s en) false] = A at *
 refine (ans_btcheck (he.kept0 k0) hl).mono ?_
 rintro _ m1 ⟨rfl, k1⟩
 have K1 := k0.trans k1
 have o1 := k1.own o0 (by simp)
 have he1 := he.kept0 K1
 by_cases hE : smyE s = 0
 ·rw [smyB, if_pos hE]
  simp -implicitDefEqProofs (disch := (first | omega | (simp only [lq8] <;> omega) | fail)) only [admQ, lq8, aFill, AK.cls, implies_true, if_true, if_false, seval, -List.reduceReplicate, beq_iff_eq.mpr hE, hE, rowOf_own o1, h0, smyC_0]
  refine (ans_pintZ s.stamp (.nils m1) (by simp)).mono ?_
  rintro x1 m2 ⟨k2, g2⟩
  have o2 := k2.own o1 (by simp)
  simp -implicitDefEqProofs (disch := (first | omega | (simp only [lq8] <;> omega) | fail)) only [admQ, lq8, aFill, AK.cls, implies_true, if_true, if_false, seval, -List.reduceReplicate, rowOf_own o1, rowOf_own o2, h0, smyC_0, smyC_t1]
  have hp := s.prev.2
  refine (ans_psum s.prev g2.rd (by rw [List.length_append, numI_len]; simp)).mono ?_
  rintro x2 m3 ⟨k3, g3⟩
  have o3 := k3.own o2 (by simp)
  simp -implicitDefEqProofs (disch := (first | omega | (simp only [lq8] <;> omega) | fail)) only [admQ, lq8, aFill, AK.cls, implies_true, if_true, if_false, seval, -List.reduceReplicate, rowOf_own o1, rowOf_own o2, rowOf_own o3, h0, smyC_0, smyC_t1, smyC_33]
  refine (ans_pintZ s.next g3.rd (by simp only [List.length_append, numI_len, hp]; simp)).mono ?_
  rintro x3 m4 ⟨k4, g4⟩
  have o4 := k4.own o3 (by simp)
  simp -implicitDefEqProofs (disch := (first | omega | (simp only [lq8] <;> omega) | fail)) only [admQ, lq8, aFill, AK.cls, implies_true, if_true, if_false, seval, -List.reduceReplicate, rowOf_own o1, rowOf_own o2, rowOf_own o3, rowOf_own o4, h0, smyC_0, smyC_t1, smyC_33, smyC_34, he.len]
  refine (ans_pintZ s.ents.length g4.rd (by simp only [List.length_append, numI_len, hp]; simp)).mono ?_
  rintro x4 m5 ⟨k5, g5⟩
  have o5 := k5.own o4 (by simp)
  have K5 := ((((k0.trans k1).trans k2).trans k3).trans k4).trans k5
  simp -implicitDefEqProofs (disch := (first | omega | (simp only [lq8] <;> omega) | fail)) only [admQ, lq8, aFill, AK.cls, implies_true, if_true, if_false, seval, -List.reduceReplicate, rowOf_own o1, rowOf_own o2, rowOf_own o3, rowOf_own o4, rowOf_own o5, h0, smyC_0, smyC_t1, smyC_33, smyC_34, he.len]
  have l5 := K5.len
  have l4 := ((((k0.trans k1).trans k2).trans k3).trans k4).len
  have hB : [] ++ numI s.stamp ++ s.prev.1 ++ numI s.next ++ numI s.ents.length = numI s.stamp ++ s.prev.1 ++ numI s.next ++ numI s.ents.length := by simp
  rw [hB] at g5
  have hBl : (numI s.stamp ++ s.prev.1 ++ numI s.next ++ numI s.ents.length).length = 56 := by simp only [List.length_append, numI_len, hp]
  rw [smyR]
  generalize numI s.stamp ++ s.prev.1 ++ numI s.next ++ numI s.ents.length = base at *
  have hx4 : ∀ q ∈ blkOf x4, m.length ≤ q := fun q hq => by
   obtain ⟨p5, rfl, ho5, hp5⟩ := g5
   simp only [blkOf, List.mem_singleton] at hq; omega
  refine LoopW.on (fun t : Nat × AV => [(5, t.2), (27, en), (28, .int .i64 s.ents.length), (29, .int .i64 t.1)]) (fun t => s.ents.length - t.1)
   (fun t M => t.1 ≤ s.ents.length ∧ Kept [] m M ∧ RdB M t.2 (base ++ (s.ents.take t.1).flatMap Ent.by) ∧ ∀ q ∈ blkOf t.2, m.length ≤ q) ?_ (0, x4) _ _ rfl ⟨by omega, K5, by simpa using g5.rd, hx4⟩
  clear o1 o2 o3 o4 o5 g2 g3 g4 g5 K5 k5 k4 k3 k2 l5 l4 hx4
  rintro ⟨i, x⟩ M X ⟨hi, kk, g, hlo⟩ hX
  simp only at hi g hlo
  have hfl : ((s.ents.take i).flatMap Ent.by).length = 56 * i := by
   rw [ents_len, List.length_take, Nat.min_eq_left hi]
  by_cases hlt : i < s.ents.length
  ·obtain ⟨b, sc, rfl, ho, ht, hle⟩ := ent_at he hlt
   have hr := kk.own ho (by simp)
   have hsn : (s.ents.take (i + 1)).flatMap Ent.by = (s.ents.take i).flatMap Ent.by ++ (s.ents[i]).by := by
    rw [List.take_add_one, List.getElem?_eq_getElem hlt, List.flatMap_append]; simp
   generalize s.ents[i] = e at *
   generalize (s.ents.take i).flatMap Ent.by = acc at *
   have el := e.cells_len
   have k3 := Kept.app [] M [Blk.row e.cells false]
   have o3 : own (M ++ [Blk.row e.cells false]) M.length = some e.cells := by rw [own_app_at0]; rfl
   simp -implicitDefEqProofs (disch := (first | omega | (simp only [lq8] <;> omega) | fail)) only [admQ, lq8, aFill, AK.cls, implies_true, if_true, if_false, seval, -List.reduceReplicate, rowOf_own hr, ht, hle, el, Ent.sp, Ent.c0, rowOf_own o3]
   generalize M ++ [Blk.row e.cells false] = A2 at *
   refine (ans_pintZ e.k (g.kept0 k3) (by rw [List.length_append]; omega)).mono ?_
   rintro y1 n1 ⟨j1, h1⟩
   have p1 := j1.own o3 (by simp)
   simp -implicitDefEqProofs (disch := (first | omega | (simp only [lq8] <;> omega) | fail)) only [admQ, lq8, aFill, AK.cls, implies_true, if_true, if_false, seval, -List.reduceReplicate, rowOf_own o3, rowOf_own p1, el, Ent.c0, Ent.c1]
   refine (ans_pintZ e.b h1.rd (by simp only [List.length_append, numI_len]; omega)).mono ?_
   rintro y2 n2 ⟨j2, h2⟩
   have p2 := j2.own p1 (by simp)
   simp -implicitDefEqProofs (disch := (first | omega | (simp only [lq8] <;> omega) | fail)) only [admQ, lq8, aFill, AK.cls, implies_true, if_true, if_false, seval, -List.reduceReplicate, rowOf_own o3, rowOf_own p1, rowOf_own p2, el, Ent.c0, Ent.c1, Ent.c2]
   refine (ans_pintZ e.s h2.rd (by simp only [List.length_append, numI_len]; omega)).mono ?_
   rintro y3 n3 ⟨j3, h3⟩
   have p3 := j3.own p2 (by simp)
   simp -implicitDefEqProofs (disch := (first | omega | (simp only [lq8] <;> omega) | fail)) only [admQ, lq8, aFill, AK.cls, implies_true, if_true, if_false, seval, -List.reduceReplicate, rowOf_own o3, rowOf_own p1, rowOf_own p2, rowOf_own p3, el, Ent.c0, Ent.c1, Ent.c2, Ent.t3]
   refine (ans_psum e.sum h3.rd (by simp only [List.length_append, numI_len]; omega)).mono ?_
   rintro y4 n4 ⟨j4, h4⟩
   have p4 := j4.own p3 (by simp)
   simp -implicitDefEqProofs (disch := (first | omega | (simp only [lq8] <;> omega) | fail)) only [admQ, lq8, aFill, AK.cls, implies_true, if_true, if_false, seval, -List.reduceReplicate, rowOf_own o3, rowOf_own p1, rowOf_own p2, rowOf_own p3, rowOf_own p4, el, Ent.c0, Ent.c1, Ent.c2, Ent.t3]
   have KK := (((kk.trans k3).trans j1).trans j2).trans j3
   have lK := KK.len
   refine hX (i + 1, y4) _ _ rfl (by simp only; omega) ⟨by simp only; omega, KK.trans j4, ?_, fun q hq => ?_⟩
   ·have hrd := h4.rd
    simp only
    rw [hsn, ← List.append_assoc, Ent.by]
    simpa only [List.append_assoc] using hrd
   ·obtain ⟨p5, rfl, ho5, hp5⟩ := h4
    simp only [blkOf, List.mem_singleton] at hq; omega
  ·obtain rfl : i = s.ents.length := by omega
   rw [List.take_length] at g
   simp -implicitDefEqProofs (disch := (first | omega | (simp only [lq8] <;> omega) | fail)) only [admQ, lq8, aFill, AK.cls, implies_true, if_true, if_false, seval, -List.reduceReplicate]
   exact ⟨kk, x, rfl, g, hlo⟩
 ·rw [smyB, if_neg hE]
  simp -implicitDefEqProofs (disch := (first | omega | (simp only [lq8] <;> omega) | fail)) only [admQ, lq8, aFill, AK.cls, implies_true, if_true, if_false, seval, -List.reduceReplicate, beq_eq_false_iff_ne.mpr hE]
  exact ⟨K1, .nils, rfl, .nils _, by simp [blkOf]⟩
end Go.Proofs.YtehnkcnjmfbjpaaGreat
end
