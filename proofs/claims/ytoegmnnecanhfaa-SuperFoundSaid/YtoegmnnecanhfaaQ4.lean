/- Texts of this seat, joined (part 4 of 4): an abstract memory for Go programs, this seat's functions as abstract code, and what each of them does. -/
import Derived.Test.YtoegmnnecanhfaaQ3
set_option linter.unusedSimpArgs false
section
/- The disk. -/
namespace Go.Proofs.Ytoegmnnecanhfaa
open Go Go.Adm
set_option linter.unusedSimpArgs false
set_option linter.unusedVariables false
set_option maxRecDepth 100000
abbrev Cch := List (Int × List B8)
def cIdx (c : Cch) (i : Int) : Option Nat := fidx i (c.map (·.1))
def cGet (c : Cch) (i : Int) : Option (List B8) := (cIdx c i).bind fun j => (c[j]?).map (·.2)
def cPut (c : Cch) (i : Int) (b : List B8) : Cch := match cIdx c i with
  | some j => c.set j (i, b)
  | none => c ++ [(i, b)]
def cDel (c : Cch) (i : Int) : Cch := match cIdx c i with
  | some j => c.eraseIdx j
  | none => c
theorem cIdx_some {c : Cch} {i : Int} {j : Nat} (h : cIdx c i = some j) : ∃ b, c[j]? = some (i, b) := by
  have := fidx_some h
  rw [List.getElem?_map] at this
  obtain ⟨e, h1, h2⟩ := Option.map_eq_some_iff.mp this
  obtain ⟨k, b⟩ := e
  simp only at h2
  subst h2
  exact ⟨b, h1⟩
theorem cPut_keys {c : Cch} {i : Int} {b : List B8} (h : (c.map (·.1)).Nodup) : ((cPut c i b).map (·.1)).Nodup := by
  unfold cPut
  cases hj : cIdx c i with
  | some j =>
    obtain ⟨b', hb⟩ := cIdx_some hj
    have hl := lt_of_get hb
    have : (c.set j (i, b)).map (·.1) = c.map (·.1) := by
      rw [List.map_set]
      apply List.ext_getElem?
      intro k
      by_cases hk : j = k
      · subst hk
        rw [List.getElem?_set_self (by simpa using hl), List.getElem?_map, hb]; rfl
      · rw [List.getElem?_set_ne hk]
    rw [this]; exact h
  | none =>
    have := fidx_none.mp hj
    rw [List.map_append, List.nodup_append]
    refine ⟨h, by simp, ?_⟩
    intro a ha b' hb'
    simp only [List.map_cons, List.map_nil, List.mem_singleton] at hb'
    subst hb'
    rintro rfl
    exact this ha
theorem cGet_put {c : Cch} {i : Int} {b : List B8} (h : (c.map (·.1)).Nodup) : cGet (cPut c i b) i = some b := by
  unfold cGet
  have key : ∀ j : Nat, (cPut c i b)[j]? = some (i, b) → (cIdx (cPut c i b) i).bind (fun j => ((cPut c i b)[j]?).map (·.2)) = some b := fun j hj => by
    have : cIdx (cPut c i b) i = some j := fidx_nodup (cPut_keys h) (by rw [List.getElem?_map, hj]; rfl)
    rw [this, Option.bind_some, hj]; rfl
  cases hj : cIdx c i with
  | some j =>
    obtain ⟨b', hb⟩ := cIdx_some hj
    refine key j ?_
    unfold cPut
    rw [hj]
    exact List.getElem?_set_self (lt_of_get hb)
  | none =>
    refine key c.length ?_
    unfold cPut
    rw [hj]
    simp
theorem cDel_keys {c : Cch} {i : Int} (h : (c.map (·.1)).Nodup) : ((cDel c i).map (·.1)).Nodup := by
  unfold cDel
  split
  · exact List.Nodup.sublist ((List.eraseIdx_sublist c _).map _) h
  · exact h
theorem cGet_del {c : Cch} {i : Int} (h : (c.map (·.1)).Nodup) : cGet (cDel c i) i = none := by
  have hn : i ∉ (cDel c i).map (·.1) := by
    intro hm
    obtain ⟨e, he, rfl⟩ := List.mem_map.mp hm
    unfold cDel at he
    cases hj : cIdx c e.1 with
    | none =>
      rw [hj] at he
      exact fidx_none.mp hj (List.mem_map_of_mem he)
    | some j =>
      rw [hj] at he
      obtain ⟨b', hb⟩ := cIdx_some hj
      obtain ⟨k, hk⟩ := List.getElem?_of_mem he
      rw [List.getElem?_eraseIdx] at hk
      have uniq : ∀ k', c[k']? = some e → k' = j := fun k' hk' => by
        have e1 : fidx e.1 (c.map (·.1)) = some k' := fidx_nodup h (by rw [List.getElem?_map, hk']; rfl)
        exact Option.some.inj (e1.symm.trans hj)
      split at hk
      · have := uniq _ hk; omega
      · have := uniq _ hk; omega
  unfold cGet
  rw [show cIdx (cDel c i) i = none from fidx_none.mpr hn]; rfl
/-- A disk. -/
structure Dk where
  lasts : List (List B8)
  cache : Cch
  armed : Bool
  left : Int
  off : Bool
  writes : Int
  reads : List Int
def okI (d : Dk) (i : Int) : Prop := 0 ≤ i ∧ i < d.lasts.length
instance (d : Dk) (i : Int) : Decidable (okI d i) := by unfold okI; infer_instance
def wrongD (d : Dk) (i : Int) (b : List B8) : Int := if ¬ okI d i then 7 else if b.length > 1024 then 3 else 0
def spendE (d : Dk) : Int := if d.off = true then 12 else if d.armed = true ∧ d.left = 0 then 12 else 0
def spendD (d : Dk) : Dk := if d.off = true then d else if d.armed = true ∧ d.left = 0 then { d with off := true } else { d with left := IntKind.i64.wrap (d.left - 1) }
def writeE (d : Dk) (i : Int) (b : List B8) : Int := if d.off = true then 12 else if wrongD d i b ≠ 0 then wrongD d i b else spendE d
def writeD (d : Dk) (i : Int) (b : List B8) : Dk := if d.off = true then d else if wrongD d i b ≠ 0 then d else if spendE d ≠ 0 then spendD d else { spendD d with cache := cPut d.cache i b, writes := IntKind.i64.wrap (d.writes + 1) }
def peekD (d : Dk) (i : Int) : List B8 := (cGet d.cache i).getD ((d.lasts[i.toNat]?).getD [])
def readD (d : Dk) (i : Int) : Dk := { d with reads := d.reads.set i.toNat (IntKind.i64.wrap ((d.reads[i.toNat]?).getD 0 + 1)) }
def tamperD (d : Dk) (i : Int) (b : List B8) : Dk := if wrongD d i b ≠ 0 then d else { d with lasts := d.lasts.set i.toNat b, cache := cDel d.cache i }
/-- Bytes that are held: in blocks of R, none of W. -/
def RdV (m : Mem) (W R : List Nat) (v : AV) (l : List B8) : Prop := RdB m v l ∧ ∀ q ∈ blkOf v, q ∈ R ∧ q ∉ W
theorem RdV.kept {m m' : Mem} {W R R' X : List Nat} {v : AV} {l : List B8} (h : RdV m W R v l) (hk : Kept X m m') (hX : ∀ q ∈ blkOf v, q ∉ X) (hR : ∀ q ∈ R, q ∈ R') : RdV m' W R' v l :=
  ⟨rdb_ap h.1 hk hX, fun q hq => ⟨hR q (h.2 q hq).1, (h.2 q hq).2⟩⟩
/-- A disk at x: the blocks W are written, R are read. -/
structure Dsk (m : Mem) (x : Nat) (W R : List Nat) (d : Dk) : Prop where
  ex : ∃ pl pm pr lv es ck, W = [x, pl, pm, pr] ∧ W.Nodup ∧ own m x = some [.sl pl 0 d.lasts.length d.lasts.length 0, .map pm, .bool d.armed, .int .i64 d.left, .bool d.off, .int .i64 d.writes, .sl pr 0 d.lasts.length d.lasts.length 0] ∧
    (own m pl = some lv ∧ lv.length = d.lasts.length ∧ ∀ (i : Nat) l, d.lasts[i]? = some l → ∃ v, lv[i]? = some v ∧ RdV m W R v l) ∧
    (m[pm]? = some (.map es ck) ∧ es.length = d.cache.length ∧ ∀ (j : Nat) k l, d.cache[j]? = some (k, l) → ∃ v c, es[j]? = some (.int .i64 k, v, c) ∧ RdV m W R v l) ∧
    own m pr = some (d.reads.map (.int .i64)) ∧ d.reads.length = d.lasts.length
  sub : ∀ q ∈ W, q ∈ R
  lt : ∀ q ∈ R, q < m.length
  keys : (d.cache.map (·.1)).Nodup
  sz : 1 ≤ d.lasts.length ∧ d.lasts.length ≤ 4096
theorem Dsk.kept {m m' : Mem} {x : Nat} {W R X : List Nat} {d : Dk} (h : Dsk m x W R d) (hk : Kept X m m') (hX : ∀ q ∈ R, q ∉ X) : Dsk m' x W R d := by
  obtain ⟨pl, pm, pr, lv, es, ck, rfl, hn, h1, ⟨h2, h3, h4⟩, ⟨h5, h6, h7⟩, h8, h9⟩ := h.ex
  have hs := h.sub
  have hV : ∀ {v : AV} {l : List B8}, RdV m [x, pl, pm, pr] R v l → RdV m' [x, pl, pm, pr] R v l := fun hv => hv.kept hk (fun q hq => hX q (hv.2 q hq).1) (fun _ h => h)
  refine ⟨⟨pl, pm, pr, lv, es, ck, rfl, hn, hk.own h1 (hX x (hs x (by simp))), ⟨hk.own h2 (hX pl (hs pl (by simp))), h3, fun i l hl => ?_⟩, ⟨?_, h6, fun j k l hl => ?_⟩, hk.own h8 (hX pr (hs pr (by simp))), h9⟩, hs, fun q hq => Nat.lt_of_lt_of_le (h.lt q hq) hk.len, h.keys, h.sz⟩
  · obtain ⟨v, g1, g2⟩ := h4 i l hl; exact ⟨v, g1, hV g2⟩
  · rw [hk.eq pm (lt_of_get h5) (hX pm (hs pm (by simp)))]; exact h5
  · obtain ⟨v, c, g1, g2⟩ := h7 j k l hl; exact ⟨v, c, g1, hV g2⟩
theorem Dsk.kept0 {m m' : Mem} {x : Nat} {W R : List Nat} {d : Dk} (h : Dsk m x W R d) (hk : Kept [] m m') : Dsk m' x W R d := h.kept hk (by simp)
theorem aFind_int (i : Int) : ∀ (c : Cch) (es : List (AV × AV × Nat)) (i0 : Nat), es.length = c.length → (∀ (j : Nat) k b, c[j]? = some (k, b) → ∃ v n, es[j]? = some (.int .i64 k, v, n)) →
    aFind (.one .i) (.int .i64 i) es i0 = some ((cIdx c i).map fun j => (i0 + j, ((es[j]?).map (·.2.1)).getD .nils)) := by
  intro c
  induction c with
  | nil =>
    intro es i0 hl _
    have : es = [] := List.length_eq_zero_iff.mp hl
    subst this; rfl
  | cons e c ih =>
    intro es i0 hl h
    cases es with
    | nil => cases hl
    | cons f es =>
      obtain ⟨k, b⟩ := e
      obtain ⟨v, n, h0⟩ := h 0 k b rfl
      simp only [List.getElem?_cons_zero, Option.some.injEq] at h0
      subst h0
      have ih' := ih es (i0 + 1) (by simpa using hl) (fun j k b hj => h (j + 1) k b (by simpa using hj))
      unfold aFind
      have hm : mapEq (.one .i) (.int .i64 i) (.int .i64 k) = some (i == k) := rfl
      simp only [hm, Option.bind_some]
      unfold cIdx at ih' ⊢
      simp only [List.map_cons]
      unfold fidx
      by_cases hk : i = k
      · subst hk
        simp
      · rw [beq_eq_false_iff_ne.mpr hk, if_neg hk, ih']
        cases fidx i (c.map (·.1)) with
        | none => rfl
        | some j => simp [Nat.add_assoc, Nat.add_comm 1 j]
/-- A map's entries show a cache. -/
def CchR (P : AV → List B8 → Prop) (es : List (AV × AV × Nat)) (c : Cch) : Prop := es.length = c.length ∧ ∀ (j : Nat) k l, c[j]? = some (k, l) → ∃ v n, es[j]? = some (.int .i64 k, v, n) ∧ P v l
def esPut (c : Cch) (i : Int) (v : AV) (ck : Nat) (es : List (AV × AV × Nat)) : List (AV × AV × Nat) := match cIdx c i with
  | some j => es.set j (.int .i64 i, v, ((es[j]?).map fun e => e.2.2).getD 0)
  | none => es ++ [(.int .i64 i, v, ck)]
def ckPut (c : Cch) (i : Int) (ck : Nat) : Nat := match cIdx c i with
  | some _ => ck
  | none => ck + 1
def esDel (c : Cch) (i : Int) (es : List (AV × AV × Nat)) : List (AV × AV × Nat) := match cIdx c i with
  | some j => es.eraseIdx j
  | none => es
theorem CchR.mono {P Q : AV → List B8 → Prop} {es : List (AV × AV × Nat)} {c : Cch} (h : CchR P es c) (hq : ∀ v l, P v l → Q v l) : CchR Q es c :=
  ⟨h.1, fun j k l hj => let ⟨v, n, h1, h2⟩ := h.2 j k l hj; ⟨v, n, h1, hq _ _ h2⟩⟩
theorem CchR.put {P : AV → List B8 → Prop} {es : List (AV × AV × Nat)} {c : Cch} (h : CchR P es c) {v : AV} {b : List B8} (hv : P v b) (i : Int) (ck : Nat) : CchR P (esPut c i v ck es) (cPut c i b) := by
  unfold esPut cPut
  cases hj : cIdx c i with
  | some j0 =>
    obtain ⟨b', hb⟩ := cIdx_some hj
    have hl := lt_of_get hb
    refine ⟨by simp [h.1], fun j k l hjl => ?_⟩
    by_cases hjj : j0 = j
    · subst hjj
      simp only [List.getElem?_set_self hl, Option.some.injEq, Prod.mk.injEq] at hjl
      obtain ⟨rfl, rfl⟩ := hjl
      exact ⟨v, _, List.getElem?_set_self (by rw [h.1]; exact hl), hv⟩
    · simp only [List.getElem?_set_ne hjj] at hjl ⊢
      exact h.2 j k l hjl
  | none =>
    refine ⟨by simp [h.1], fun j k l hjl => ?_⟩
    by_cases hlt : j < c.length
    · simp only [List.getElem?_append_left hlt] at hjl
      obtain ⟨v', n, h1, h2⟩ := h.2 j k l hjl
      exact ⟨v', n, by simp only [List.getElem?_append_left (show j < es.length by rw [h.1]; exact hlt)]; exact h1, h2⟩
    · have hle := lt_of_get hjl
      simp only [List.length_append, List.length_cons, List.length_nil] at hle
      obtain rfl : j = c.length := by omega
      simp only [List.getElem?_concat_length, Option.some.injEq, Prod.mk.injEq] at hjl
      obtain ⟨rfl, rfl⟩ := hjl
      exact ⟨v, ck, by rw [← h.1, List.getElem?_concat_length], hv⟩
theorem CchR.del {P : AV → List B8 → Prop} {es : List (AV × AV × Nat)} {c : Cch} (h : CchR P es c) (i : Int) : CchR P (esDel c i es) (cDel c i) := by
  unfold esDel cDel
  cases hj : cIdx c i with
  | none => exact h
  | some j0 =>
    refine ⟨by simp only [List.length_eraseIdx, h.1], fun j k l hjl => ?_⟩
    simp only [List.getElem?_eraseIdx] at hjl ⊢
    by_cases hlt : j < j0
    · rw [if_pos hlt] at hjl ⊢; exact h.2 j k l hjl
    · rw [if_neg hlt] at hjl ⊢; exact h.2 (j + 1) k l hjl
theorem CchR.find {P : AV → List B8 → Prop} {es : List (AV × AV × Nat)} {c : Cch} (h : CchR P es c) (i : Int) : aFind (.one .i) (.int .i64 i) es 0 = some ((cIdx c i).map fun j => (j, ((es[j]?).map (·.2.1)).getD .nils)) := by
  rw [aFind_int i c es 0 h.1 (fun j k b hj => let ⟨v, n, h1, _⟩ := h.2 j k b hj; ⟨v, n, h1⟩)]
  simp
theorem cch_set {P : AV → List B8 → Prop} {m : Mem} {p ck : Nat} {es : List (AV × AV × Nat)} {c : Cch} (hp : m[p]? = some (.map es ck)) (h : CchR P es c) (i : Int) (v : AV) :
    aMapSet (.one .i) m [.map p, .int .i64 i, v] = some (.tup [], m.set p (.map (esPut c i v ck es) (ckPut c i ck))) := by
  have hmo : mapOf m p = some (es, ck) := by unfold mapOf; rw [hp]
  have hkf : keyFits (.one .i) (.int .i64 i) = true := rfl
  show (if keyFits (.one .i) (.int .i64 i) = true then (mapOf m p).bind fun q => (aPutMap (.one .i) (.int .i64 i) v q.1 q.2).map fun q => (AV.tup [], m.set p (.map q.1 q.2)) else none) = _
  rw [if_pos hkf, hmo]
  unfold aPutMap esPut ckPut
  simp only [Option.bind_some, h.find]
  cases cIdx c i <;> simp
theorem cch_del {P : AV → List B8 → Prop} {m : Mem} {p ck : Nat} {es : List (AV × AV × Nat)} {c : Cch} (hp : m[p]? = some (.map es ck)) (h : CchR P es c) (i : Int) :
    aMapDel (.one .i) m [.map p, .int .i64 i] = some (.tup [], m.set p (.map (esDel c i es) ck)) := by
  have hmo : mapOf m p = some (es, ck) := by unfold mapOf; rw [hp]
  have hkf : keyFits (.one .i) (.int .i64 i) = true := rfl
  show (if keyFits (.one .i) (.int .i64 i) = true then (mapOf m p).bind fun q => (aFind (.one .i) (.int .i64 i) q.1 0).map fun r => (AV.tup [], m.set p (.map (delMap r q.1) q.2)) else none) = _
  rw [if_pos hkf, hmo]
  unfold esDel
  simp only [Option.bind_some, h.find]
  cases cIdx c i <;> simp [delMap]
theorem cch_look {P : AV → List B8 → Prop} {m : Mem} {p ck : Nat} {es : List (AV × AV × Nat)} {c : Cch} (hp : m[p]? = some (.map es ck)) (h : CchR P es c) (i : Int) :
    ∃ v, rLookup (.one .i) .nils true m [.map p, .int .i64 i] = some (.tup [v, .bool (cGet c i).isSome]) ∧ (match cGet c i with | some l => P v l | none => v = .nils) := by
  have hmo : mapOf m p = some (es, ck) := by unfold mapOf; rw [hp]
  have hkf : keyFits (.one .i) (.int .i64 i) = true := rfl
  have e : rLookup (.one .i) .nils true m [.map p, .int .i64 i] = (if keyFits (.one .i) (.int .i64 i) = true then (mapOf m p).bind fun q => (aFind (.one .i) (.int .i64 i) q.1 0).map (lookRes .nils true) else none) := rfl
  rw [e, if_pos hkf, hmo]
  simp only [Option.bind_some, h.find]
  unfold cGet
  cases hj : cIdx c i with
  | none => exact ⟨.nils, rfl, rfl⟩
  | some j =>
    obtain ⟨b', hb⟩ := cIdx_some hj
    obtain ⟨v, n, h1, h2⟩ := h.2 j i b' hb
    refine ⟨v, ?_, ?_⟩
    · simp [h1, hb, lookRes]
    · simp only [Option.bind_some, hb, Option.map_some]; exact h2
end Go.Proofs.Ytoegmnnecanhfaa
end
section
/- The disk, walked. -/
namespace Go.Proofs.Ytoegmnnecanhfaa
open Go Go.Adm
set_option linter.unusedSimpArgs false
set_option linter.unusedVariables false
set_option maxRecDepth 100000
theorem ans_dkthere {m : Mem} {x : Nat} {W R : List Nat} {d : Dk} (h : Dsk m x W R d) (i : Int) : Ans Try.prog 35 [.ptr x 0, .int .i64 i] m fun r m' => r = .bool (decide (okI d i)) ∧ m' = m := by
  refine ans_ret mixed ok35 ?_
  obtain ⟨pl, pm, pr, lv, es, ck, rfl, hn, h1, -⟩ := h.ex
  by_cases hi : i ≥ 0
  · by_cases hj : i < (d.lasts.length : Int)
    · simp -implicitDefEqProofs (disch := (first | omega | (simp only [lenB, lowB_len, numB_len, nsumB_len] <;> omega) | fail)) only [admQ, lenB, lowB_len, numB_len, nsumB_len, aFill, AK.cls, implies_true, if_true, if_false, seval, -List.reduceReplicate, c35, r35, rowOf_own h1, dec_t hi, dec_t hj, dec_t (show okI d i from ⟨hi, hj⟩)]
    · simp -implicitDefEqProofs (disch := (first | omega | (simp only [lenB, lowB_len, numB_len, nsumB_len] <;> omega) | fail)) only [admQ, lenB, lowB_len, numB_len, nsumB_len, aFill, AK.cls, implies_true, if_true, if_false, seval, -List.reduceReplicate, c35, r35, rowOf_own h1, dec_t hi, dec_f hj, dec_f (show ¬ okI d i from fun h => hj h.2)]
  · simp -implicitDefEqProofs (disch := (first | omega | (simp only [lenB, lowB_len, numB_len, nsumB_len] <;> omega) | fail)) only [admQ, lenB, lowB_len, numB_len, nsumB_len, aFill, AK.cls, implies_true, if_true, if_false, seval, -List.reduceReplicate, c35, r35, rowOf_own h1, dec_f hi, dec_f (show ¬ okI d i from fun h => hi h.1)]
theorem ans_dkwrong {m : Mem} {x : Nat} {W R : List Nat} {d : Dk} {y : AV} {b : List B8} (h : Dsk m x W R d) (hy : RdB m y b) (i : Int) : Ans Try.prog 38 [.ptr x 0, .int .i64 i, y] m fun r m' => r = .int .i64 (wrongD d i b) ∧ m' = m := by
  refine ans_ret mixed ok38 ?_
  simp -implicitDefEqProofs (disch := (first | omega | (simp only [lenB, lowB_len, numB_len, nsumB_len] <;> omega) | fail)) only [admQ, lenB, lowB_len, numB_len, nsumB_len, aFill, AK.cls, implies_true, if_true, if_false, seval, -List.reduceReplicate, c38, r38]
  refine (ans_dkthere h i).mono ?_
  rintro _ M ⟨rfl, hM⟩
  subst hM
  unfold wrongD
  by_cases h1 : okI d i
  · by_cases h2 : b.length > 1024
    · simp -implicitDefEqProofs (disch := (first | omega | (simp only [lenB, lowB_len, numB_len, nsumB_len] <;> omega) | fail)) only [admQ, lenB, lowB_len, numB_len, nsumB_len, aFill, AK.cls, implies_true, if_true, if_false, seval, -List.reduceReplicate, dec_t h1, Bool.not_true, hy.len, dec_t (show (b.length : Int) > 1024 by omega), h1, h2]
    · simp -implicitDefEqProofs (disch := (first | omega | (simp only [lenB, lowB_len, numB_len, nsumB_len] <;> omega) | fail)) only [admQ, lenB, lowB_len, numB_len, nsumB_len, aFill, AK.cls, implies_true, if_true, if_false, seval, -List.reduceReplicate, dec_t h1, Bool.not_true, hy.len, dec_f (show ¬ (b.length : Int) > 1024 by omega), h1, h2]
  · simp -implicitDefEqProofs (disch := (first | omega | (simp only [lenB, lowB_len, numB_len, nsumB_len] <;> omega) | fail)) only [admQ, lenB, lowB_len, numB_len, nsumB_len, aFill, AK.cls, implies_true, if_true, if_false, seval, -List.reduceReplicate, dec_f h1, Bool.not_false, h1]
theorem ans_dkspend {m : Mem} {x : Nat} {W R : List Nat} {d : Dk} (h : Dsk m x W R d) : Ans Try.prog 49 [.ptr x 0] m fun r m' => r = .int .i64 (spendE d) ∧ Kept W m m' ∧ Dsk m' x W R (spendD d) ∧ m'.length = m.length := by
  refine ans_ret mixed ok49 ?_
  obtain ⟨pl, pm, pr, lv, es, ck, rfl, hn, h1, ⟨h2, h3, h4⟩, ⟨h5, h6, h7⟩, h8, h9⟩ := h.ex
  have hx := own_lt h1
  simp only [List.nodup_cons, List.mem_cons, List.not_mem_nil, or_false, not_or] at hn
  have done : ∀ d' : Dk, d'.lasts = d.lasts → d'.cache = d.cache → d'.reads = d.reads → ∀ cells, cells = [AV.sl pl 0 d'.lasts.length d'.lasts.length 0, .map pm, .bool d'.armed, .int .i64 d'.left, .bool d'.off, .int .i64 d'.writes, .sl pr 0 d'.lasts.length d'.lasts.length 0] →
      Kept [x, pl, pm, pr] m (m.set x (.row cells false)) ∧ Dsk (m.set x (.row cells false)) x [x, pl, pm, pr] R d' ∧ (m.set x (.row cells false)).length = m.length := by
    intro d' e1 e2 e3 cells hc
    have kX : Kept [x] m (m.set x (.row cells false)) := .set1 _ _ _
    have hV : ∀ {v : AV} {l : List B8}, RdV m [x, pl, pm, pr] R v l → RdV (m.set x (.row cells false)) [x, pl, pm, pr] R v l := fun hv => hv.kept kX (fun q hq h => (hv.2 q hq).2 (by simp only [List.mem_singleton] at h; simp [h])) (fun _ h => h)
    refine ⟨kX.more (by simp), ⟨⟨pl, pm, pr, lv, es, ck, rfl, by simp [hn], by rw [hc]; exact own_set hx _, ⟨kX.own h2 (by simp; omega), by rw [e1]; exact h3, fun i l hl => ?_⟩, ⟨?_, by rw [e2]; exact h6, fun j k l hl => ?_⟩, by rw [e3]; exact kX.own h8 (by simp; omega), by rw [e1, e3]; exact h9⟩, h.sub, fun q hq => by rw [List.length_set]; exact h.lt q hq, by rw [e2]; exact h.keys, by rw [e1]; exact h.sz⟩, List.length_set⟩
    · rw [e1] at hl; obtain ⟨v, g1, g2⟩ := h4 i l hl; exact ⟨v, g1, hV g2⟩
    · rw [kX.eq pm (lt_of_get h5) (by simp; omega)]; exact h5
    · rw [e2] at hl; obtain ⟨v, c, g1, g2⟩ := h7 j k l hl; exact ⟨v, c, g1, hV g2⟩
  by_cases ho : d.off = true
  · rw [spendE, spendD, if_pos ho, if_pos ho]
    simp -implicitDefEqProofs (disch := (first | omega | (simp only [lenB, lowB_len, numB_len, nsumB_len] <;> omega) | fail)) only [admQ, lenB, lowB_len, numB_len, nsumB_len, aFill, AK.cls, implies_true, if_true, if_false, seval, -List.reduceReplicate, c49, r49, rowOf_own h1, ho]
    exact ⟨.refl _ _, h⟩
  · have ho' : d.off = false := by simpa using ho
    by_cases ha : d.armed = true ∧ d.left = 0
    · rw [spendE, spendD, if_neg ho, if_pos ha, if_neg ho, if_pos ha]
      obtain ⟨ha1, ha2⟩ := ha
      simp -implicitDefEqProofs (disch := (first | omega | (simp only [lenB, lowB_len, numB_len, nsumB_len] <;> omega) | fail)) only [admQ, lenB, lowB_len, numB_len, nsumB_len, aFill, AK.cls, implies_true, if_true, if_false, seval, -List.reduceReplicate, c49, r49, rowOf_own h1, ho', ha1, beq_iff_eq.mpr ha2, h1]
      obtain ⟨r1, r2, -⟩ := done ⟨d.lasts, d.cache, true, d.left, true, d.writes, d.reads⟩ rfl rfl rfl _ rfl
      exact ⟨r1, r2⟩
    · rw [spendE, spendD, if_neg ho, if_neg ha, if_neg ho, if_neg ha]
      cases har : d.armed with
      | true =>
        have ha2 : ¬ d.left = 0 := fun h => ha ⟨har, h⟩
        simp -implicitDefEqProofs (disch := (first | omega | (simp only [lenB, lowB_len, numB_len, nsumB_len] <;> omega) | fail)) only [admQ, lenB, lowB_len, numB_len, nsumB_len, aFill, AK.cls, implies_true, if_true, if_false, seval, -List.reduceReplicate, c49, r49, rowOf_own h1, ho', har, beq_eq_false_iff_ne.mpr ha2, h1]
        obtain ⟨r1, r2, -⟩ := done ⟨d.lasts, d.cache, true, IntKind.i64.wrap (d.left - 1), false, d.writes, d.reads⟩ rfl rfl rfl _ rfl
        exact ⟨r1, r2⟩
      | false =>
        simp -implicitDefEqProofs (disch := (first | omega | (simp only [lenB, lowB_len, numB_len, nsumB_len] <;> omega) | fail)) only [admQ, lenB, lowB_len, numB_len, nsumB_len, aFill, AK.cls, implies_true, if_true, if_false, seval, -List.reduceReplicate, c49, r49, rowOf_own h1, ho', har, h1]
        obtain ⟨r1, r2, -⟩ := done ⟨d.lasts, d.cache, false, IntKind.i64.wrap (d.left - 1), false, d.writes, d.reads⟩ rfl rfl rfl _ rfl
        exact ⟨r1, r2⟩
theorem ans_dkwrite {m : Mem} {x : Nat} {W R : List Nat} {d : Dk} {y : AV} {b : List B8} (h : Dsk m x W R d) (hy : RdB m y b) (hyW : ∀ q ∈ blkOf y, q ∉ W) (hl : b.length ≤ 100000) (i : Int) :
    Ans Try.prog 34 [.ptr x 0, .int .i64 i, y] m fun r m' => r = .int .i64 (writeE d i b) ∧ Kept W m m' ∧ ∃ R', Dsk m' x W R' (writeD d i b) ∧ ∀ q ∈ R', q ∈ R ∨ m.length ≤ q := by
  refine ans_ret mixed ok34 ?_
  have hno : ∀ d', d' = d → Kept W m m ∧ ∃ R', Dsk m x W R' d' ∧ ∀ q ∈ R', q ∈ R ∨ m.length ≤ q := fun d' e => ⟨.refl _ _, R, by rw [e]; exact h, fun q hq => .inl hq⟩
  obtain ⟨pl, pm, pr, lv, es, ck, hWe, hn, h1, -⟩ := h.ex
  by_cases ho : d.off = true
  · rw [writeE, if_pos ho]
    simp -implicitDefEqProofs (disch := (first | omega | (simp only [lenB, lowB_len, numB_len, nsumB_len] <;> omega) | fail)) only [admQ, lenB, lowB_len, numB_len, nsumB_len, aFill, AK.cls, implies_true, if_true, if_false, seval, -List.reduceReplicate, c34, r34, rowOf_own h1, ho]
    exact hno _ (by rw [writeD, if_pos ho])
  have ho' : d.off = false := by simpa using ho
  simp -implicitDefEqProofs (disch := (first | omega | (simp only [lenB, lowB_len, numB_len, nsumB_len] <;> omega) | fail)) only [admQ, lenB, lowB_len, numB_len, nsumB_len, aFill, AK.cls, implies_true, if_true, if_false, seval, -List.reduceReplicate, c34, r34, rowOf_own h1, ho']
  refine (ans_dkwrong h hy i).mono ?_
  rintro _ M ⟨rfl, hM⟩
  subst hM
  by_cases hw : wrongD d i b = 0
  · simp -implicitDefEqProofs (disch := (first | omega | (simp only [lenB, lowB_len, numB_len, nsumB_len] <;> omega) | fail)) only [admQ, lenB, lowB_len, numB_len, nsumB_len, aFill, AK.cls, implies_true, if_true, if_false, seval, -List.reduceReplicate, hw]
    refine (ans_dkspend h).mono ?_
    rintro _ m1 ⟨rfl, k1, hD, hml⟩
    have hw2 : ¬ (wrongD d i b ≠ 0) := by simp [hw]
    rw [writeE, if_neg ho, if_neg hw2]
    by_cases hs : spendE d = 0
    · have hs2 : ¬ (spendE d ≠ 0) := by simp [hs]
      obtain ⟨pl', pm', pr', lv', es', ck', hWe', hn', g1, ⟨g2, g3, g4⟩, ⟨g5, g6, g7⟩, g8, g9⟩ := hD.ex
      have hd1 : (spendD d).cache = d.cache ∧ (spendD d).lasts = d.lasts ∧ (spendD d).reads = d.reads ∧ (spendD d).writes = d.writes := by unfold spendD; split <;> (try split) <;> exact ⟨rfl, rfl, rfl, rfl⟩
      rw [writeD, if_neg ho, if_neg hw2, if_neg hs2]
      simp -implicitDefEqProofs (disch := (first | omega | (simp only [lenB, lowB_len, numB_len, nsumB_len] <;> omega) | fail)) only [admQ, lenB, lowB_len, numB_len, nsumB_len, aFill, AK.cls, implies_true, if_true, if_false, seval, -List.reduceReplicate, hs, rowOf_own g1]
      refine (ans_slclone (rdb_ap hy k1 hyW) (by omega)).mono ?_
      rintro v m2 ⟨k2, g, lo⟩
      have f1 := k2.own g1 (by simp)
      have f5 : m2[pm']? = some (.map es' ck') := by rw [k2.eq pm' (lt_of_get g5) (by simp)]; exact g5
      have hxw : x ∈ W ∧ pm' ∈ W := by rw [hWe']; simp
      have hCR : CchR (RdV m1 W R) es' (spendD d).cache := ⟨g6, g7⟩
      have hset := cch_set f5 hCR i v
      have hn2 := hn'
      rw [hWe'] at hn2
      simp only [List.nodup_cons, List.mem_cons, List.not_mem_nil, or_false, not_or] at hn2
      have lm := lt_of_get f5
      have lx := own_lt f1
      have q1 : own (m2.set pm' (.map (esPut (spendD d).cache i v ck' es') (ckPut (spendD d).cache i ck'))) x = some [.sl pl' 0 (spendD d).lasts.length (spendD d).lasts.length 0, .map pm', .bool (spendD d).armed, .int .i64 (spendD d).left, .bool (spendD d).off, .int .i64 (spendD d).writes, .sl pr' 0 (spendD d).lasts.length (spendD d).lasts.length 0] := own_set_ne' f1 (by omega) _
      simp -implicitDefEqProofs (disch := (first | omega | (simp only [lenB, lowB_len, numB_len, nsumB_len] <;> omega) | fail)) only [admQ, lenB, lowB_len, numB_len, nsumB_len, aFill, AK.cls, implies_true, if_true, if_false, seval, -List.reduceReplicate, rowOf_own f1, rowOf_own g1, mapR, hset, rowOf_own q1, q1]
      have KX : Kept [x, pm'] m2 ((m2.set pm' (.map (esPut (spendD d).cache i v ck' es') (ckPut (spendD d).cache i ck'))).set x (.row [.sl pl' 0 (spendD d).lasts.length (spendD d).lasts.length 0, .map pm', .bool (spendD d).armed, .int .i64 (spendD d).left, .bool (spendD d).off, .int .i64 (IntKind.i64.wrap ((spendD d).writes + 1)), .sl pr' 0 (spendD d).lasts.length (spendD d).lasts.length 0] false)) :=
        (Kept.set (X := [x, pm']) m2 pm' _ (by simp)).trans (.set _ x _ (by simp))
      have x4 := own_set (own_lt q1) [AV.sl pl' 0 (spendD d).lasts.length (spendD d).lasts.length 0, .map pm', .bool (spendD d).armed, .int .i64 (spendD d).left, .bool (spendD d).off, .int .i64 (IntKind.i64.wrap ((spendD d).writes + 1)), .sl pr' 0 (spendD d).lasts.length (spendD d).lasts.length 0]
      have p4 : ((m2.set pm' (.map (esPut (spendD d).cache i v ck' es') (ckPut (spendD d).cache i ck'))).set x (.row [.sl pl' 0 (spendD d).lasts.length (spendD d).lasts.length 0, .map pm', .bool (spendD d).armed, .int .i64 (spendD d).left, .bool (spendD d).off, .int .i64 (IntKind.i64.wrap ((spendD d).writes + 1)), .sl pr' 0 (spendD d).lasts.length (spendD d).lasts.length 0] false))[pm']? = some (.map (esPut (spendD d).cache i v ck' es') (ckPut (spendD d).cache i ck')) := by
        rw [List.getElem?_set_ne (by omega), List.getElem?_set_self lm]
      generalize ((m2.set pm' (.map (esPut (spendD d).cache i v ck' es') (ckPut (spendD d).cache i ck'))).set x (.row [.sl pl' 0 (spendD d).lasts.length (spendD d).lasts.length 0, .map pm', .bool (spendD d).armed, .int .i64 (spendD d).left, .bool (spendD d).off, .int .i64 (IntKind.i64.wrap ((spendD d).writes + 1)), .sl pr' 0 (spendD d).lasts.length (spendD d).lasts.length 0] false)) = m4 at KX x4 p4
      have hnX : ∀ q, q ∉ W → q ∉ [x, pm'] := fun q hq h => by
        simp only [List.mem_cons, List.not_mem_nil, or_false] at h
        rcases h with rfl | rfl
        · exact hq hxw.1
        · exact hq hxw.2
      have hold : ∀ v0 l0, RdV m1 W R v0 l0 → RdV m4 W (R ++ blkOf v) v0 l0 := fun v0 l0 hv =>
        ⟨rdb_ap (hv.1.kept0 k2) KX (fun q hq => hnX q (hv.2 q hq).2), fun q hq => ⟨by simp [(hv.2 q hq).1], (hv.2 q hq).2⟩⟩
      have hWlt : ∀ q ∈ W, q < m1.length := fun q hq => hD.lt q (hD.sub q hq)
      have hvW : ∀ q ∈ blkOf v, q ∉ W := fun q hq h => by have := lo q hq; have := hWlt q h; omega
      have hnew : RdV m4 W (R ++ blkOf v) v b := ⟨rdb_ap g.rd KX (fun q hq => hnX q (hvW q hq)), fun q hq => ⟨by simp [hq], hvW q hq⟩⟩
      have hCR4 := CchR.put (hCR.mono hold) hnew i ck'
      have h24 := KX.len
      have h12 := k2.len
      have hlv := g.lt
      refine ⟨(k1.trans (k2.any)).trans (KX.more (fun q hq _ => by simp only [List.mem_cons, List.not_mem_nil, or_false] at hq; rcases hq with rfl | rfl; exact hxw.1; exact hxw.2)), R ++ blkOf v, ⟨⟨pl', pm', pr', lv', _, _, hWe', hn', by rw [x4, hd1.2.2.2], ⟨(KX.own (k2.own g2 (by simp)) (by simp; omega)), g3, fun i l hi => let ⟨v0, e1, e2⟩ := g4 i l hi; ⟨v0, e1, hold _ _ e2⟩⟩, ⟨p4, by rw [← hd1.1]; exact hCR4.1, by rw [← hd1.1]; exact hCR4.2⟩, KX.own (k2.own g8 (by simp)) (by simp; omega), g9⟩, fun q hq => by simp [hD.sub q hq], fun q hq => ?_, by rw [← hd1.1]; exact cPut_keys hD.keys, hD.sz⟩, fun q hq => ?_⟩
      · rcases List.mem_append.mp hq with h | h
        · have := hD.lt q h; omega
        · have := hlv q h; omega
      · rcases List.mem_append.mp hq with h | h
        · exact .inl h
        · right; have := lo q h; omega
    · have hs2 : spendE d ≠ 0 := hs
      rw [writeD, if_neg ho, if_neg hw2, if_pos hs2]
      simp -implicitDefEqProofs (disch := (first | omega | (simp only [lenB, lowB_len, numB_len, nsumB_len] <;> omega) | fail)) only [admQ, lenB, lowB_len, numB_len, nsumB_len, aFill, AK.cls, implies_true, if_true, if_false, seval, -List.reduceReplicate, beq_eq_false_iff_ne.mpr hs]
      exact ⟨k1, R, hD, fun q hq => .inl hq⟩
  · rw [writeE, if_neg ho, if_pos hw]
    simp -implicitDefEqProofs (disch := (first | omega | (simp only [lenB, lowB_len, numB_len, nsumB_len] <;> omega) | fail)) only [admQ, lenB, lowB_len, numB_len, nsumB_len, aFill, AK.cls, implies_true, if_true, if_false, seval, -List.reduceReplicate, beq_eq_false_iff_ne.mpr hw]
    exact hno _ (by rw [writeD, if_neg ho, if_pos hw])
end Go.Proofs.Ytoegmnnecanhfaa
end
section
/- The disk, walked: read, tampered with, new. -/
namespace Go.Proofs.Ytoegmnnecanhfaa
open Go Go.Adm
set_option linter.unusedSimpArgs false
set_option linter.unusedVariables false
set_option maxRecDepth 100000
theorem ans_dkread {m : Mem} {x : Nat} {W R : List Nat} {d : Dk} (h : Dsk m x W R d) {i : Nat} (hi : i < d.lasts.length) (hsz : (peekD d i).length ≤ 1000000) :
    Ans Try.prog 17 [.ptr x 0, .int .i64 i] m fun r m' => Kept W m m' ∧ Dsk m' x W R (readD d i) ∧ ∃ v, r = .tup [v, .int .i64 0] ∧ SPb m.length m' v (peekD d i) := by
  refine ans_ret mixed ok17 ?_
  simp -implicitDefEqProofs (disch := (first | omega | (simp only [lenB, lowB_len, numB_len, nsumB_len] <;> omega) | fail)) only [admQ, lenB, lowB_len, numB_len, nsumB_len, aFill, AK.cls, implies_true, if_true, if_false, seval, -List.reduceReplicate, c17, r17]
  refine (ans_dkthere h i).mono ?_
  rintro _ M ⟨rfl, hM⟩
  subst hM
  obtain ⟨pl, pm, pr, lv, es, ck, rfl, hn, h1, ⟨h2, h3, h4⟩, ⟨h5, h6, h7⟩, h8, h9⟩ := h.ex
  have hok : okI d i := ⟨by omega, by omega⟩
  simp only [List.nodup_cons, List.mem_cons, List.not_mem_nil, or_false, not_or] at hn
  have hir : i < d.reads.length := by omega
  have er : (d.reads.map (AV.int .i64))[i]? = some (.int .i64 d.reads[i]) := by rw [List.getElem?_map, List.getElem?_eq_getElem hir]; rfl
  have hsp : splice (d.reads.map (AV.int .i64)) i [.int .i64 (IntKind.i64.wrap (d.reads[i] + 1))] = (d.reads.set i (IntKind.i64.wrap (d.reads[i] + 1))).map (AV.int .i64) := splice_map hir
  have hmy : readD d i = { d with reads := d.reads.set i (IntKind.i64.wrap (d.reads[i] + 1)) } := by
    unfold readD
    rw [Int.toNat_natCast, List.getElem?_eq_getElem hir]; rfl
  have hlr : (d.reads.map (AV.int .i64)).length = d.lasts.length := by rw [List.length_map, h9]
  simp -implicitDefEqProofs (disch := (first | omega | (simp only [lenB, lowB_len, numB_len, nsumB_len] <;> omega) | fail)) only [admQ, lenB, lowB_len, numB_len, nsumB_len, aFill, AK.cls, implies_true, if_true, if_false, seval, -List.reduceReplicate, dec_t hok, Bool.not_true, rowOf_own h1, rowOf_own h8, er, h8, hsp, hlr]
  have kX := Kept.set1 M pr (.row ((d.reads.set i (IntKind.i64.wrap (d.reads[i] + 1))).map (AV.int .i64)) false)
  have p8 := own_set (own_lt h8) ((d.reads.set i (IntKind.i64.wrap (d.reads[i] + 1))).map (AV.int .i64))
  generalize M.set pr (.row ((d.reads.set i (IntKind.i64.wrap (d.reads[i] + 1))).map (AV.int .i64)) false) = A at kX p8
  have hV : ∀ {v : AV} {l : List B8}, RdV M [x, pl, pm, pr] R v l → RdV A [x, pl, pm, pr] R v l := fun hv => hv.kept kX (fun q hq h => (hv.2 q hq).2 (by simp only [List.mem_singleton] at h; simp [h])) (fun _ h => h)
  have p1 := kX.own h1 (by simp; omega)
  have p2 := kX.own h2 (by simp; omega)
  have p5 : A[pm]? = some (.map es ck) := by rw [kX.eq pm (lt_of_get h5) (by simp; omega)]; exact h5
  have hD : Dsk A x [x, pl, pm, pr] R (readD d i) := by
    rw [hmy]
    exact ⟨⟨pl, pm, pr, lv, es, ck, rfl, by simp [hn], p1, ⟨p2, h3, fun i l hl => let ⟨v, g1, g2⟩ := h4 i l hl; ⟨v, g1, hV g2⟩⟩, ⟨p5, h6, fun j k l hl => let ⟨v, c, g1, g2⟩ := h7 j k l hl; ⟨v, c, g1, hV g2⟩⟩, p8, by simp [h9]⟩, h.sub, fun q hq => Nat.lt_of_lt_of_le (h.lt q hq) kX.len, h.keys, h.sz⟩
  have hCR : CchR (RdV A [x, pl, pm, pr] R) es d.cache := ⟨h6, fun j k l hl => let ⟨v, c, g1, g2⟩ := h7 j k l hl; ⟨v, c, g1, hV g2⟩⟩
  obtain ⟨v, lk, hv⟩ := cch_look p5 hCR i
  have kW : Kept [x, pl, pm, pr] M A := kX.more (by simp)
  cases hg : cGet d.cache i with
  | some l =>
    have hpk : peekD d i = l := by rw [peekD, hg]; rfl
    rw [hg] at hv lk
    rw [hpk] at hsz ⊢
    simp -implicitDefEqProofs (disch := (first | omega | (simp only [lenB, lowB_len, numB_len, nsumB_len] <;> omega) | fail)) only [admQ, lenB, lowB_len, numB_len, nsumB_len, aFill, AK.cls, implies_true, if_true, if_false, seval, -List.reduceReplicate, rowOf_own p1, mapR, lk, Option.isSome_some]
    refine (ans_slclone hv.1 (by omega)).mono ?_
    rintro w m2 ⟨k2, g, lo⟩
    simp -implicitDefEqProofs (disch := (first | omega | (simp only [lenB, lowB_len, numB_len, nsumB_len] <;> omega) | fail)) only [admQ, lenB, lowB_len, numB_len, nsumB_len, aFill, AK.cls, implies_true, if_true, if_false, seval, -List.reduceReplicate]
    have hl := kX.len
    exact ⟨kW.trans k2.any, hD.kept0 k2, w, rfl, .gr g fun q hq => by have := lo q hq; omega⟩
  | none =>
    obtain ⟨v0, e0, hv0⟩ := h4 i _ (List.getElem?_eq_getElem hi)
    have hpk : peekD d i = d.lasts[i] := by rw [peekD, hg, Int.toNat_natCast, List.getElem?_eq_getElem hi]; rfl
    rw [hg] at lk
    rw [hpk] at hsz ⊢
    simp -implicitDefEqProofs (disch := (first | omega | (simp only [lenB, lowB_len, numB_len, nsumB_len] <;> omega) | fail)) only [admQ, lenB, lowB_len, numB_len, nsumB_len, aFill, AK.cls, implies_true, if_true, if_false, seval, -List.reduceReplicate, rowOf_own p1, mapR, lk, Option.isSome_none, rowOf_own p2, e0]
    refine (ans_slclone (hV hv0).1 (by omega)).mono ?_
    rintro w m2 ⟨k2, g, lo⟩
    simp -implicitDefEqProofs (disch := (first | omega | (simp only [lenB, lowB_len, numB_len, nsumB_len] <;> omega) | fail)) only [admQ, lenB, lowB_len, numB_len, nsumB_len, aFill, AK.cls, implies_true, if_true, if_false, seval, -List.reduceReplicate]
    have hl := kX.len
    exact ⟨kW.trans k2.any, hD.kept0 k2, w, rfl, .gr g fun q hq => by have := lo q hq; omega⟩
theorem ans_dktamper {m : Mem} {x : Nat} {W R : List Nat} {d : Dk} {y : AV} {b : List B8} (h : Dsk m x W R d) (hy : RdB m y b) (hl : b.length ≤ 100000) (i : Nat) :
    Ans Try.prog 21 [.ptr x 0, .int .i64 i, y] m fun r m' => r = .int .i64 (wrongD d i b) ∧ Kept W m m' ∧ ∃ R', Dsk m' x W R' (tamperD d i b) ∧ ∀ q ∈ R', q ∈ R ∨ m.length ≤ q := by
  refine ans_ret mixed ok21 ?_
  simp -implicitDefEqProofs (disch := (first | omega | (simp only [lenB, lowB_len, numB_len, nsumB_len] <;> omega) | fail)) only [admQ, lenB, lowB_len, numB_len, nsumB_len, aFill, AK.cls, implies_true, if_true, if_false, seval, -List.reduceReplicate, c21, r21]
  refine (ans_dkwrong h hy i).mono ?_
  rintro _ M ⟨rfl, hM⟩
  subst hM
  by_cases hw : wrongD d i b = 0
  · have hw2 : ¬ (wrongD d i b ≠ 0) := by simp [hw]
    have hi : i < d.lasts.length := by
      unfold wrongD at hw
      split at hw
      · omega
      · rename_i h; have := (Decidable.not_not.mp h).2; omega
    obtain ⟨pl, pm, pr, lv, es, ck, rfl, hn, h1, ⟨h2, h3, h4⟩, ⟨h5, h6, h7⟩, h8, h9⟩ := h.ex
    simp only [List.nodup_cons, List.mem_cons, List.not_mem_nil, or_false, not_or] at hn
    rw [hw]
    simp -implicitDefEqProofs (disch := (first | omega | (simp only [lenB, lowB_len, numB_len, nsumB_len] <;> omega) | fail)) only [admQ, lenB, lowB_len, numB_len, nsumB_len, aFill, AK.cls, implies_true, if_true, if_false, seval, -List.reduceReplicate, rowOf_own h1]
    refine (ans_slclone hy (by omega)).mono ?_
    rintro v m2 ⟨k2, g, lo⟩
    have f1 := k2.own h1 (by simp)
    have f2 := k2.own h2 (by simp)
    have f8 := k2.own h8 (by simp)
    have f5 : m2[pm]? = some (.map es ck) := by rw [k2.eq pm (lt_of_get h5) (by simp)]; exact h5
    have hsp : splice lv i [v] = lv.set i v := splice_one lv i v (by omega)
    have hll : lv.length = d.lasts.length := h3
    have p1 := own_set_ne' f1 (show pl ≠ x by omega) (.row (lv.set i v) false)
    have p5 : (m2.set pl (.row (lv.set i v) false))[pm]? = some (.map es ck) := by rw [List.getElem?_set_ne (by omega)]; exact f5
    have hdl := cch_del p5 (P := RdV M [x, pl, pm, pr] R) ⟨h6, h7⟩ i
    simp -implicitDefEqProofs (disch := (first | omega | (simp only [lenB, lowB_len, numB_len, nsumB_len] <;> omega) | fail)) only [admQ, lenB, lowB_len, numB_len, nsumB_len, aFill, AK.cls, implies_true, if_true, if_false, seval, -List.reduceReplicate, rowOf_own f1, rowOf_own f2, f2, hsp, hll, (rd_one g.rd).1, (rd_one g.rd).2, rowOf_own p1, mapR, hdl]
    have lpl := own_lt f2
    have lpm := lt_of_get f5
    have KX : Kept [pl, pm] m2 ((m2.set pl (.row (lv.set i v) false)).set pm (.map (esDel d.cache i es) ck)) := (Kept.set (X := [pl, pm]) m2 pl _ (by simp)).trans (.set _ pm _ (by simp))
    have q5 : ((m2.set pl (.row (lv.set i v) false)).set pm (.map (esDel d.cache i es) ck))[pm]? = some (.map (esDel d.cache i es) ck) := List.getElem?_set_self (by rw [List.length_set]; exact lpm)
    have q2 : own ((m2.set pl (.row (lv.set i v) false)).set pm (.map (esDel d.cache i es) ck)) pl = some (lv.set i v) := own_set_ne' (own_set lpl _) (by omega) _
    generalize ((m2.set pl (.row (lv.set i v) false)).set pm (.map (esDel d.cache i es) ck)) = m4 at KX q5 q2
    have hnX : ∀ q, q ∉ [x, pl, pm, pr] → q ∉ [pl, pm] := fun q hq h => hq (by simp only [List.mem_cons, List.not_mem_nil, or_false] at h ⊢; rcases h with h | h <;> simp [h])
    have hold : ∀ v0 l0, RdV M [x, pl, pm, pr] R v0 l0 → RdV m4 [x, pl, pm, pr] (R ++ blkOf v) v0 l0 := fun v0 l0 hv =>
      ⟨rdb_ap (hv.1.kept0 k2) KX (fun q hq => hnX q (hv.2 q hq).2), fun q hq => ⟨by simp [(hv.2 q hq).1], (hv.2 q hq).2⟩⟩
    have hvW : ∀ q ∈ blkOf v, q ∉ [x, pl, pm, pr] := fun q hq hm => by have := lo q hq; have := h.lt q (h.sub q hm); omega
    have hnew : RdV m4 [x, pl, pm, pr] (R ++ blkOf v) v b := ⟨rdb_ap g.rd KX (fun q hq => hnX q (hvW q hq)), fun q hq => ⟨by simp [hq], hvW q hq⟩⟩
    have hCR4 := (CchR.mono (P := RdV M [x, pl, pm, pr] R) ⟨h6, h7⟩ hold).del i
    have h24 := KX.len
    have h12 := k2.len
    have hlv := g.lt
    rw [tamperD, if_neg hw2]
    refine ⟨(k2.any).trans (KX.more (by simp)), R ++ blkOf v, ⟨⟨pl, pm, pr, lv.set i v, _, _, rfl, by simp [hn], ?_, ⟨q2, by simp [h3], fun j l hj => ?_⟩, ⟨q5, hCR4.1, hCR4.2⟩, KX.own f8 (by simp; omega), by simp [h9]⟩, fun q hq => by simp [h.sub q hq], fun q hq => ?_, cDel_keys h.keys, by simpa using h.sz⟩, fun q hq => ?_⟩
    · simp only [List.length_set]; exact KX.own f1 (by simp; omega)
    · simp only [Int.toNat_natCast] at hj
      by_cases hij : i = j
      · subst hij
        rw [List.getElem?_set_self hi] at hj
        cases hj
        exact ⟨v, List.getElem?_set_self (by omega), hnew⟩
      · rw [List.getElem?_set_ne hij] at hj
        obtain ⟨v0, e1, e2⟩ := h4 j l hj
        exact ⟨v0, by rw [List.getElem?_set_ne hij]; exact e1, hold _ _ e2⟩
    · rcases List.mem_append.mp hq with h' | h'
      · have := h.lt q h'; omega
      · have := hlv q h'; omega
    · rcases List.mem_append.mp hq with h' | h'
      · exact .inl h'
      · right; have := lo q h'; omega
  · simp -implicitDefEqProofs (disch := (first | omega | (simp only [lenB, lowB_len, numB_len, nsumB_len] <;> omega) | fail)) only [admQ, lenB, lowB_len, numB_len, nsumB_len, aFill, AK.cls, implies_true, if_true, if_false, seval, -List.reduceReplicate, beq_eq_false_iff_ne.mpr hw]
    exact ⟨.refl _ _, R, by rw [tamperD, if_pos hw]; exact h, fun q hq => .inl hq⟩
def dk0 (n : Nat) : Dk := ⟨List.replicate n [], [], false, 0, false, 0, List.replicate n 0⟩
theorem ans_dknew (n : Nat) (hn : 1 ≤ n ∧ n ≤ 4096) (m : Mem) : Ans Try.prog 14 [.int .i64 n] m fun r m' => Kept [] m m' ∧ ∃ x W R, r = .tup [.ptr x 0, .int .i64 0] ∧ Dsk m' x W R (dk0 n) ∧ ∀ q ∈ R, m.length ≤ q := by
  refine ans_ret mixed ok14 ?_
  simp -implicitDefEqProofs (disch := (first | omega | (simp only [lenB, lowB_len, numB_len, nsumB_len] <;> omega) | fail)) only [admQ, lenB, lowB_len, numB_len, nsumB_len, aFill, AK.cls, implies_true, if_true, if_false, seval, -List.reduceReplicate, c14, r14, dec_f (show ¬ (n : Int) < 1 by omega), dec_f (show ¬ (n : Int) > 4096 by omega), mapR, mkMp]
  have r1 : rep n [AV.nils] = List.replicate n .nils := by simp [rep]
  have r2 : rep n [AV.int .i64 0] = (List.replicate n (0 : Int)).map (.int .i64) := by simp [rep]
  refine ⟨.app _ _ _, m.length + 3, [m.length + 3, m.length, m.length + 1, m.length + 2], [m.length + 3, m.length, m.length + 1, m.length + 2], rfl, ⟨⟨m.length, m.length + 1, m.length + 2, List.replicate n .nils, [], 0, rfl, by simp, ?_, ⟨?_, by simp [dk0], fun i l hl => ?_⟩, ⟨?_, rfl, fun j k l hj => by simp [dk0] at hj⟩, ?_, by simp [dk0]⟩, fun q hq => hq, by simp, by simp [dk0], by simp only [dk0, List.length_replicate]; exact hn⟩, by simp⟩
  · rw [own_app_at]; simp [own, dk0]
  · rw [own_app_at0, r1]; rfl
  · simp only [dk0, List.getElem?_replicate] at hl
    split at hl
    · cases hl
      rename_i hi
      exact ⟨.nils, by rw [List.getElem?_replicate, if_pos hi], .nils _, by simp [blkOf]⟩
    · cases hl
  · rw [List.getElem?_append_right (by omega)]; simp
  · rw [own_app_at, r2]; rfl
end Go.Proofs.Ytoegmnnecanhfaa
end
section
/- Superblocks, written and read, over a disk and a crypt. -/
namespace Go.Proofs.Ytoegmnnecanhfaa
open Go Go.Adm
set_option linter.unusedSimpArgs false
set_option linter.unusedVariables false
set_option maxRecDepth 100000
/-- A text's digest, and what the crypt holds then. -/
def cySm (s : CyS) (b : List B8) : List B8 := match s with
  | .nm S T => nsumB T b
def cyTx (s : CyS) (b : List B8) : CyS := match s with
  | .nm S T => .nm S (addN b T)
def cyTk : CyS → Nat → Prop
  | .nm S T, k => T.length ≤ k
def cySmF : CyS → FuncId
  | .nm _ _ => 73
theorem cym_sum (s : CyS) : methodD Try.prog (cyT s) "Sum" = some (cySmF s) := by
  cases s with
  | nm S T =>
    show methodD Try.prog 39 "Sum" = some 73
    kernel_rfl
theorem cySm_len (s : CyS) (b : List B8) : (cySm s b).length = 32 := by
  cases s with
  | nm S T => exact nsumB_len T b
theorem ans_cysum {m : Mem} {x : Nat} {W R : List Nat} {s : CyS} {b : List B8} {y : AV} (hC : Cy m x W R s) (hb : RdB m y b) (hd : ∀ q ∈ blkOf y, q ∉ W) (hk : cyTk s 1000) (hl : b.length ≤ 100000) :
    Ans Try.prog (cySmF s) [.ptr x 0, y] m fun r m' => r = .agg (bys (cySm s b)) ∧ Kept W m m' ∧ Cy m' x W R (cyTx s b) := by
  cases s with
  | nm S T =>
    obtain ⟨hN, rfl⟩ := hC
    have hT : T.length ≤ 1000 := hk
    refine (ans_nsum hN hb hd (by omega) hl).mono ?_
    rintro _ m' ⟨rfl, k1, h1⟩
    exact ⟨rfl, k1, h1, rfl⟩
/-- A disk at xd and a crypt at xc: in the blocks B, apart. -/
def Vo (m : Mem) (xd xc : Nat) (B : List Nat) (d : Dk) (c : CyS) : Prop := ∃ Wd Rd Wc Rc, Dsk m xd Wd Rd d ∧ Cy m xc Wc Rc c ∧ (∀ q ∈ Rd, q ∉ Rc) ∧ B = Rd ++ Rc
theorem Vo.kept {m m' : Mem} {xd xc : Nat} {B X : List Nat} {d : Dk} {c : CyS} (h : Vo m xd xc B d c) (hk : Kept X m m') (hX : ∀ q ∈ B, q ∉ X) : Vo m' xd xc B d c := by
  obtain ⟨Wd, Rd, Wc, Rc, h1, h2, h3, rfl⟩ := h
  exact ⟨Wd, Rd, Wc, Rc, h1.kept hk (fun q hq => hX q (by simp [hq])), h2.kept hk (fun q hq => hX q (by simp [hq])), h3, rfl⟩
theorem Vo.kept0 {m m' : Mem} {xd xc : Nat} {B : List Nat} {d : Dk} {c : CyS} (h : Vo m xd xc B d c) (hk : Kept [] m m') : Vo m' xd xc B d c := h.kept hk (by simp)
theorem Vo.lt {m : Mem} {xd xc : Nat} {B : List Nat} {d : Dk} {c : CyS} (h : Vo m xd xc B d c) : ∀ q ∈ B, q < m.length := by
  obtain ⟨Wd, Rd, Wc, Rc, h1, h2, h3, rfl⟩ := h
  intro q hq
  rcases List.mem_append.mp hq with h | h
  · exact h1.lt q h
  · exact h2.lt q h
def suS (e : Int) (g : Geo) : Sec := ⟨1, e, 0, 0, putG g⟩
def suE (d : Dk) (c : CyS) (e : Int) (g : Geo) : Int := if errG g ≠ 0 then errG g else if errP (suS e g) ≠ 0 then errP (suS e g) else writeE d 0 (putL c (suS e g))
def suC (d : Dk) (c : CyS) (e : Int) (g : Geo) : CyS := if errG g ≠ 0 then c else if errP (suS e g) ≠ 0 then c else if writeE d 0 (putL c (suS e g)) ≠ 0 then putC c (suS e g) else cyTx (putC c (suS e g)) (putL c (suS e g))
def suD (d : Dk) (c : CyS) (e : Int) (g : Geo) : Dk := if errG g ≠ 0 then d else if errP (suS e g) ≠ 0 then d else writeD d 0 (putL c (suS e g))
def suM (d : Dk) (c : CyS) (e : Int) (g : Geo) : List B8 := if suE d c e g = 0 then cySm (putC c (suS e g)) (putL c (suS e g)) else List.replicate 32 0#8
theorem kept_mix {X Y : List Nat} {m m1 m2 : Mem} (h : Kept Y m m1) (h2 : Kept X m1 m2) (hx : ∀ q ∈ X, q ∈ Y ∨ m.length ≤ q) : Kept Y m m2 :=
  ⟨Nat.le_trans h.len h2.len, fun q h3 h4 => by rw [h2.eq q (h.lt h3) (fun h5 => (hx q h5).elim h4 (fun h6 => by omega)), h.eq q h3 h4]⟩
theorem ans_suwrite {m : Mem} {xd xc : Nat} {B : List Nat} {d : Dk} {c : CyS} (hV : Vo m xd xc B d c) (e : Int) (g : Geo) (hk : cyOk c 999) (ht : cyTk c 1000) :
    Ans Try.prog 16 [.ptr xd 0, .iface (cyT c) (.ptr xc 0), .int .i64 e, geoV g] m fun r m' => r = .tup [.agg (bys (suM d c e g)), .int .i64 (suE d c e g)] ∧ Kept B m m' ∧ ∃ B', Vo m' xd xc B' (suD d c e g) (suC d c e g) ∧ ∀ q ∈ B', q ∈ B ∨ m.length ≤ q := by
  refine ans_ret mixed ok16 ?_
  unfold geoV geoC
  obtain ⟨Wd, Rd, Wc, Rc, hD, hC, hap, rfl⟩ := hV
  have k0 := Kept.app [] m [.row [.int .i64 g.s, .int .i64 g.n, .int .i64 g.b] false, .row (bys (List.replicate 32 0#8)) false]
  have o0 : own (m ++ [.row [.int .i64 g.s, .int .i64 g.n, .int .i64 g.b] false, .row (bys (List.replicate 32 0#8)) false]) (m.length + 1) = some (bys (List.replicate 32 0#8)) := by rw [own_app_at]; rfl
  simp -implicitDefEqProofs (disch := (first | omega | (simp only [lenB, lowB_len, numB_len, nsumB_len] <;> omega) | fail)) only [admQ, lenB, lowB_len, numB_len, nsumB_len, aFill, AK.cls, implies_true, if_true, if_false, seval, -List.reduceReplicate, c16, r16]
  generalize m ++ [.row [.int .i64 g.s, .int .i64 g.n, .int .i64 g.b] false, .row (bys (List.replicate 32 0#8)) false] = A at *
  refine (ans_suput g A).mono ?_
  rintro _ m1 ⟨k1, w, rfl, rw1, bw1⟩
  have o1 := k1.own o0 (by simp)
  have K1 := k0.trans k1
  have lA := own_lt o0
  have l1 := k1.len
  have hz : (bys (List.replicate 32 0#8)).length = 32 := by simp
  have hsp : splice (bys (List.replicate 32 0#8)) 0 (bys (List.replicate 32 0#8)) = bys (List.replicate 32 0#8) := splice_whole rfl
  have htk : List.take 32 (bys (List.replicate 32 0#8)) = bys (List.replicate 32 0#8) := List.take_of_length_le (by simp)
  have KW : Kept [] m (m1.set (m.length + 1) (.row (bys (List.replicate 32 0#8)) false)) := K1.write (.inr (by omega)) _
  have fin : ∀ (M : Mem) (row : Blk) {Wd' Rd'' Wc' Rc'' : List Nat} {d' : Dk} {c' : CyS}, Kept (Rd ++ Rc) m M → Dsk M xd Wd' Rd'' d' → Cy M xc Wc' Rc'' c' → (∀ q ∈ Rd'', q ∉ Rc'') → (∀ q ∈ Rd'' ++ Rc'', q ∈ Rd ++ Rc ∨ m1.length ≤ q) →
      Kept (Rd ++ Rc) m (M.set (m.length + 1) row) ∧ ∃ B', Vo (M.set (m.length + 1) row) xd xc B' d' c' ∧ ∀ q ∈ B', q ∈ Rd ++ Rc ∨ m.length ≤ q := by
    intro M row Wd' Rd'' Wc' Rc'' d' c' hK h1 h2 h3 h4
    have hZ : ∀ q ∈ Rd'' ++ Rc'', q ∉ [m.length + 1] := fun q hq h => by
      simp only [List.mem_singleton] at h
      subst h
      rcases h4 _ hq with h | h
      · rcases List.mem_append.mp h with h | h
        · have := hD.lt _ h; omega
        · have := hC.lt _ h; omega
      · omega
    have kZ := Kept.set1 M (m.length + 1) row
    exact ⟨hK.write (.inr (by omega)) _, Rd'' ++ Rc'', ⟨Wd', Rd'', Wc', Rc'', h1.kept kZ (fun q hq => hZ q (by simp [hq])), h2.kept kZ (fun q hq => hZ q (by simp [hq])), h3, rfl⟩, fun q hq => (h4 q hq).imp id fun h => by omega⟩
  by_cases h1 : errG g = 0
  · have h1' : ¬ (errG g ≠ 0) := by simp [h1]
    have hok := (errG_ok g).mp h1
    have hpl : (putG g).length = 24 := by rw [putG, if_pos hok, geoB_len]
    rw [h1]
    simp -implicitDefEqProofs (disch := (first | omega | (simp only [lenB, lowB_len, numB_len, nsumB_len] <;> omega) | fail)) only [admQ, lenB, lowB_len, numB_len, nsumB_len, aFill, AK.cls, implies_true, if_true, if_false, seval, -List.reduceReplicate, (rd_one rw1).1, (rd_one rw1).2]
    have hbw : ∀ q ∈ blkOf w, q ∉ Wc := fun q hq h => by have := bw1 q hq; have := hC.lt q (hC.sub q h); omega
    refine (ans_scputS (s := suS e g) (hC.kept0 K1) (v := w) rw1 hbw (cyOk_mono hk (by omega)) (by simp only [suS]; omega)).mono ?_
    rintro _ m2 ⟨W', R', w2, k2, hC2, hR2, rfl, sp2, bw2⟩
    have hWcl : ∀ q ∈ Wc, q < m.length ∧ q ∈ Rc := fun q hq => ⟨hC.lt q (hC.sub q hq), hC.sub q hq⟩
    have hWdl : ∀ q ∈ Wd, q < m.length ∧ q ∈ Rd := fun q hq => ⟨hD.lt q (hD.sub q hq), hD.sub q hq⟩
    have hK1l := K1.len
    have o2 := k2.own o1 (fun h => by have := (hWcl _ h).1; omega)
    have hD2 : Dsk m2 xd Wd Rd d := (hD.kept0 K1).kept k2 (fun q hq h => hap q hq (hWcl q h).2)
    have K2 : Kept (Rd ++ Rc) m m2 := (K1.any).trans (k2.more (fun q hq _ => by simp [(hWcl q hq).2]))
    have hR2' : ∀ q ∈ Rd, q ∉ R' := fun q hq h => (hR2 q h).elim (hap q hq) (fun h2 => by have := hD.lt q hq; omega)
    have l2 := k2.len
    by_cases h2 : errP (suS e g) = 0
    · have h2' : ¬ (errP (suS e g) ≠ 0) := by simp [h2]
      have hok2 := (errP_ok _).mp h2
      have hlp := putL_len (c := c) hok2
      have hsp24 : (suS e g).p.length = 24 := hpl
      rw [h2]
      simp -implicitDefEqProofs (disch := (first | omega | (simp only [lenB, lowB_len, numB_len, nsumB_len] <;> omega) | fail)) only [admQ, lenB, lowB_len, numB_len, nsumB_len, aFill, AK.cls, implies_true, if_true, if_false, seval, -List.reduceReplicate]
      refine (ans_dkwrite hD2 sp2.rd (fun q hq h => by have := sp2.low q hq; have := (hWdl q h).1; omega) (by omega) 0).mono ?_
      rintro _ m3 ⟨rfl, k3, Rd', hD3, hRd3⟩
      have o3 := k3.own o2 (fun h => by have := (hWdl _ h).1; omega)
      have hC3 : Cy m3 xc W' R' (putC c (suS e g)) := hC2.kept k3 (fun q hq h => hR2' q (hWdl q h).2 hq)
      have rw3 : RdB m3 w2 (putL c (suS e g)) := rdb_ap sp2.rd k3 (fun q hq h => by have := sp2.low q hq; have := (hWdl q h).1; omega)
      have K3 : Kept (Rd ++ Rc) m m3 := K2.trans (k3.more (fun q hq _ => by simp [(hWdl q hq).2]))
      have l3 := k3.len
      have hap3 : ∀ q ∈ Rd', q ∉ R' := fun q hq h => (hRd3 q hq).elim (fun h1 => hR2' q h1 h) (fun h1 => by have := hC2.lt q h; omega)
      have hB3 : ∀ q ∈ Rd' ++ R', q ∈ Rd ++ Rc ∨ m.length ≤ q := fun q hq => by
        rcases List.mem_append.mp hq with h | h
        · rcases hRd3 q h with h | h
          · exact .inl (by simp [h])
          · right; omega
        · rcases hR2 q h with h | h
          · exact .inl (by simp [h])
          · right; omega
      by_cases h3 : writeE d 0 (putL c (suS e g)) = 0
      · have h3' : ¬ (writeE d 0 (putL c (suS e g)) ≠ 0) := by simp [h3]
        have hE : suE d c e g = 0 := by rw [suE, if_neg h1', if_neg h2', h3]
        rw [suM, if_pos hE, hE, suD, suC, if_neg h1', if_neg h1', if_neg h2', if_neg h2', if_neg h3', h3]
        have hm : methodD Try.prog (cyT c) "Sum" = some (cySmF (putC c (suS e g))) := by rw [← cyT_put c (suS e g)]; exact cym_sum _
        simp -implicitDefEqProofs (disch := (first | omega | (simp only [lenB, lowB_len, numB_len, nsumB_len] <;> omega) | fail)) only [admQ, lenB, lowB_len, numB_len, nsumB_len, aFill, AK.cls, implies_true, if_true, if_false, seval, -List.reduceReplicate, opW_invoke _ hm, opDW_invoke _ hm]
        have ht3 : cyTk (putC c (suS e g)) 1000 := by
          unfold putC; split
          · cases c <;> exact ht
          · exact ht
        refine (ans_cysum hC3 rw3 (fun q hq h => (bw2 q hq).2 (hC2.sub q h)) ht3 (by omega)).mono ?_
        rintro _ m4 ⟨rfl, k4, hC4⟩
        have hW' : ∀ q ∈ W', q ∈ R' := hC2.sub
        have o4 := k4.own o3 (fun h => (hR2 _ (hW' _ h)).elim (fun h1 => by have := hC.lt _ h1; omega) (fun h1 => by have := k1.len; have := K1.len; omega))
        have hsl := cySm_len (putC c (suS e g)) (putL c (suS e g))
        have hsp2 : splice (bys (List.replicate 32 0#8)) 0 (bys (cySm (putC c (suS e g)) (putL c (suS e g)))) = bys (cySm (putC c (suS e g)) (putL c (suS e g))) := splice_whole (by rw [hsl]; rfl)
        have htk2 : List.take 32 (bys (cySm (putC c (suS e g)) (putL c (suS e g)))) = bys (cySm (putC c (suS e g)) (putL c (suS e g))) := List.take_of_length_le (by rw [bys_len, hsl]; omega)
        have hbl : (bys (cySm (putC c (suS e g)) (putL c (suS e g)))).length = 32 := by rw [bys_len, hsl]
        generalize cySm (putC c (suS e g)) (putL c (suS e g)) = SM at *
        simp -implicitDefEqProofs (disch := (first | omega | (simp only [lenB, lowB_len, numB_len, nsumB_len] <;> omega) | fail)) only [admQ, lenB, lowB_len, numB_len, nsumB_len, aFill, AK.cls, implies_true, if_true, if_false, seval, -List.reduceReplicate, o4, hz, hsp2, hbl, rowOf_own (own_set (own_lt o4) _), htk2]
        have hapW : ∀ q ∈ Rd', q ∉ W' := fun q hq h => hap3 q hq (hW' q h)
        refine fin m4 _ (kept_mix K3 k4 (fun q hq => hB3 q (by simp [hW' q hq]))) (hD3.kept k4 hapW) hC4 hap3 (fun q hq => ?_)
        rcases List.mem_append.mp hq with h | h
        · exact (hRd3 q h).imp (fun h => by simp [h]) (fun h => by omega)
        · exact (hR2 q h).imp (fun h => by simp [h]) (fun h => by omega)
      · rw [suM, suE, suD, suC, if_neg h1', if_neg h1', if_neg h1', if_neg h2', if_neg h2', if_neg h2', if_pos h3, if_neg h3]
        simp -implicitDefEqProofs (disch := (first | omega | (simp only [lenB, lowB_len, numB_len, nsumB_len] <;> omega) | fail)) only [admQ, lenB, lowB_len, numB_len, nsumB_len, aFill, AK.cls, implies_true, if_true, if_false, seval, -List.reduceReplicate, beq_eq_false_iff_ne.mpr h3, o3, hz, hsp, rowOf_own (own_set (own_lt o3) _), htk]
        refine fin m3 _ K3 hD3 hC3 hap3 (fun q hq => ?_)
        rcases List.mem_append.mp hq with h | h
        · exact (hRd3 q h).imp (fun h => by simp [h]) (fun h => by omega)
        · exact (hR2 q h).imp (fun h => by simp [h]) (fun h => by omega)
    · have hno : ¬ okP (suS e g) := fun h => h2 ((errP_ok _).mpr h)
      have hcc : putC c (suS e g) = c := by rw [putC, if_neg hno]
      rw [hcc] at hC2
      rw [suM, suE, suD, suC, if_neg h1', if_neg h1', if_neg h1', if_pos h2, if_pos h2, if_pos h2, if_neg h2]
      simp -implicitDefEqProofs (disch := (first | omega | (simp only [lenB, lowB_len, numB_len, nsumB_len] <;> omega) | fail)) only [admQ, lenB, lowB_len, numB_len, nsumB_len, aFill, AK.cls, implies_true, if_true, if_false, seval, -List.reduceReplicate, beq_eq_false_iff_ne.mpr h2, o2, hz, hsp, rowOf_own (own_set (own_lt o2) _), htk]
      refine fin m2 _ K2 hD2 hC2 hR2' (fun q hq => ?_)
      rcases List.mem_append.mp hq with h | h
      · exact .inl (by simp [h])
      · exact (hR2 q h).imp (fun h => by simp [h]) (fun h => by omega)
  · rw [suM, suE, suD, suC, if_pos h1, if_pos h1, if_pos h1, if_neg h1]
    simp -implicitDefEqProofs (disch := (first | omega | (simp only [lenB, lowB_len, numB_len, nsumB_len] <;> omega) | fail)) only [admQ, lenB, lowB_len, numB_len, nsumB_len, aFill, AK.cls, implies_true, if_true, if_false, seval, -List.reduceReplicate, beq_eq_false_iff_ne.mpr h1, o1, hz, hsp, rowOf_own (own_set (own_lt o1) _), htk]
    exact ⟨K1.any.write (.inr (by omega)) _, Rd ++ Rc, ⟨Wd, Rd, Wc, Rc, hD.kept0 KW, hC.kept0 KW, hap, rfl⟩, fun q hq => .inl hq⟩
end Go.Proofs.Ytoegmnnecanhfaa
end
section
/- Superblocks, read. -/
namespace Go.Proofs.Ytoegmnnecanhfaa
open Go Go.Adm
set_option linter.unusedSimpArgs false
set_option linter.unusedVariables false
set_option maxRecDepth 100000
theorem cyOp_le {c : CyS} {e n : Int} {head b pl : List B8} (h : cyOp c e n head b = some pl) : pl.length ≤ b.length := by
  cases c with
  | nm S T =>
    simp only [cyOp] at h
    split at h
    · simp only [Option.some.injEq] at h; rw [← h]; simp
    · cases h
theorem getS_le (c : CyS) (k a : Int) (b : List B8) : (getS c k a b).p.length ≤ b.length := by
  unfold getS; split
  · cases h : cyOp c (nE b) (nN b) (headB k a.toNat) (b.drop 17) with
    | none => simp
    | some pl => have := cyOp_le h; simp at this ⊢; omega
  · simp [sec0]
def srOk (c : CyS) (b : List B8) : Prop := b.length ≠ 0 ∧ getE c 1 0 b = 0 ∧ getGE (getS c 1 0 b).p = 0 ∧ (getS c 1 0 b).n = 0
open Classical in
noncomputable def srE (c : CyS) (b : List B8) : Int := if b.length = 0 then 9 else if srOk c b then 0 else 14
open Classical in
noncomputable def srG (c : CyS) (b : List B8) : Geo := if srOk c b then getG (getS c 1 0 b).p else geo0
open Classical in
noncomputable def srM (c : CyS) (b : List B8) : List B8 := if srOk c b then cySm c b else List.replicate 32 0#8
open Classical in
noncomputable def srC (c : CyS) (b : List B8) : CyS := if srOk c b then cyTx c b else c
theorem ans_suread {m : Mem} {xd xc : Nat} {B : List Nat} {d : Dk} {c : CyS} (hV : Vo m xd xc B d c) (hk : cyOk c 1000) (ht : cyTk c 1000) (hl : (peekD d 0).length ≤ 100000) :
    Ans Try.prog 18 [.ptr xd 0, .iface (cyT c) (.ptr xc 0)] m fun r m' => r = .tup [geoV (srG c (peekD d 0)), .agg (bys (srM c (peekD d 0))), .int .i64 (srE c (peekD d 0))] ∧ Kept B m m' ∧ Vo m' xd xc B (readD d 0) (srC c (peekD d 0)) := by
  refine ans_ret mixed ok18 ?_
  obtain ⟨Wd, Rd, Wc, Rc, hD, hC, hap, rfl⟩ := hV
  have k0 := Kept.app [] m [.row [.int .i64 0, .int .i64 0, .int .i64 0] false, .row (bys (List.replicate 32 0#8)) false]
  have o0 : own (m ++ [.row [.int .i64 0, .int .i64 0, .int .i64 0] false, .row (bys (List.replicate 32 0#8)) false]) m.length = some [.int .i64 0, .int .i64 0, .int .i64 0] := by rw [own_app_at0]; rfl
  have s0 : own (m ++ [.row [.int .i64 0, .int .i64 0, .int .i64 0] false, .row (bys (List.replicate 32 0#8)) false]) (m.length + 1) = some (bys (List.replicate 32 0#8)) := by rw [own_app_at]; rfl
  simp -implicitDefEqProofs (disch := (first | omega | (simp only [lenB, lowB_len, numB_len, nsumB_len] <;> omega) | fail)) only [admQ, lenB, lowB_len, numB_len, nsumB_len, aFill, AK.cls, implies_true, if_true, if_false, seval, -List.reduceReplicate, c18, r18]
  generalize m ++ [.row [.int .i64 0, .int .i64 0, .int .i64 0] false, .row (bys (List.replicate 32 0#8)) false] = A at *
  have lA := own_lt s0
  have hsz := hD.sz
  have rdk : Ans Try.prog 17 [.ptr xd 0, .int .i64 0] A fun r m' => Kept Wd A m' ∧ Dsk m' xd Wd Rd (readD d 0) ∧ ∃ v, r = .tup [v, .int .i64 0] ∧ SPb A.length m' v (peekD d 0) :=
    ans_dkread (i := 0) (hD.kept0 k0) (by omega) (show (peekD d 0).length ≤ 1000000 by omega)
  refine rdk.mono ?_
  rintro _ m1 ⟨k1, hD1, v, rfl, sv⟩
  generalize hb : peekD d 0 = b at *
  have hWcl : ∀ q ∈ Wc, q < m.length ∧ q ∈ Rc := fun q hq => ⟨hC.lt q (hC.sub q hq), hC.sub q hq⟩
  have hWdl : ∀ q ∈ Wd, q < m.length ∧ q ∈ Rd := fun q hq => ⟨hD.lt q (hD.sub q hq), hD.sub q hq⟩
  have o1 := k1.own o0 (fun h => by have := (hWdl _ h).1; omega)
  have s1 := k1.own s0 (fun h => by have := (hWdl _ h).1; omega)
  have hC1 : Cy m1 xc Wc Rc c := (hC.kept0 k0).kept k1 (fun q hq h => hap q (hWdl q h).2 hq)
  have K1 : Kept (Rd ++ Rc) m m1 := k0.any.trans (k1.more (fun q hq _ => by simp [(hWdl q hq).2]))
  have l1 := k1.len
  have hz : (bys (List.replicate 32 0#8)).length = 32 := by simp
  have hsp : splice (bys (List.replicate 32 0#8)) 0 (bys (List.replicate 32 0#8)) = bys (List.replicate 32 0#8) := splice_whole rfl
  have htk : List.take 32 (bys (List.replicate 32 0#8)) = bys (List.replicate 32 0#8) := List.take_of_length_le (by simp)
  have fin : ∀ (M : Mem) (r1 r2 : Blk) {c' : CyS}, Kept (Rd ++ Rc) m M → Dsk M xd Wd Rd (readD d 0) → Cy M xc Wc Rc c' →
      Kept (Rd ++ Rc) m ((M.set m.length r1).set (m.length + 1) r2) ∧ Vo ((M.set m.length r1).set (m.length + 1) r2) xd xc (Rd ++ Rc) (readD d 0) c' := by
    intro M r1 r2 c' hK h1 h2
    have kZ : Kept [m.length, m.length + 1] M ((M.set m.length r1).set (m.length + 1) r2) := (Kept.set (X := [m.length, m.length + 1]) M m.length r1 (by simp)).trans (.set _ _ r2 (by simp))
    have hZ : ∀ q, q < m.length → q ∉ [m.length, m.length + 1] := fun q hq h => by simp only [List.mem_cons, List.not_mem_nil, or_false] at h; omega
    exact ⟨(hK.write (.inr (Nat.le_refl _)) _).write (.inr (by omega)) _, Wd, Rd, Wc, Rc, h1.kept kZ (fun q hq => hZ q (hD.lt q hq)), h2.kept kZ (fun q hq => hZ q (hC.lt q hq)), hap, rfl⟩
  have bad : ∀ (M : Mem) (er : Int), ¬ srOk c b → srE c b = er → Kept (Rd ++ Rc) m M → Dsk M xd Wd Rd (readD d 0) → Cy M xc Wc Rc c →
      AV.tup [.agg [.int .i64 0, .int .i64 0, .int .i64 0], .agg (bys (List.replicate 32 0#8)), .int .i64 er] = .tup [geoV (srG c b), .agg (bys (srM c b)), .int .i64 (srE c b)] ∧
      Kept (Rd ++ Rc) m ((M.set m.length (.row [AV.int .i64 0, .int .i64 0, .int .i64 0] false)).set (m.length + 1) (.row (bys (List.replicate 32 0#8)) false)) ∧ Vo ((M.set m.length (.row [AV.int .i64 0, .int .i64 0, .int .i64 0] false)).set (m.length + 1) (.row (bys (List.replicate 32 0#8)) false)) xd xc (Rd ++ Rc) (readD d 0) (srC c b) := by
    intro M er hno he hK h1 h2
    have e1 : srG c b = geo0 := if_neg hno
    have e2 : srM c b = List.replicate 32 0#8 := if_neg hno
    have e3 : srC c b = c := if_neg hno
    rw [e1, e2, e3, he]
    obtain ⟨f1, f2⟩ := fin M _ _ hK h1 h2
    exact ⟨rfl, f1, f2⟩
  by_cases h0 : b.length = 0
  · have hno : ¬ srOk c b := fun h => h.1 h0
    have he : srE c b = 9 := if_pos h0
    have t1 := own_set (own_lt o1) [AV.int .i64 0, .int .i64 0, .int .i64 0]
    have t2 := own_set_ne' s1 (show m.length ≠ m.length + 1 by omega) (.row [AV.int .i64 0, .int .i64 0, .int .i64 0] false)
    have t3 := own_set (own_lt t2) (bys (List.replicate 32 0#8))
    have t4 := own_set_ne' t1 (show m.length + 1 ≠ m.length by omega) (.row (bys (List.replicate 32 0#8)) false)
    simp -implicitDefEqProofs (disch := (first | omega | (simp only [lenB, lowB_len, numB_len, nsumB_len] <;> omega) | fail)) only [admQ, lenB, lowB_len, numB_len, nsumB_len, aFill, AK.cls, implies_true, if_true, if_false, seval, -List.reduceReplicate, sv.rd.len, h0, o1, t1, t2, hz, hsp, rowOf_own t3, rowOf_own t4, htk]
    exact bad m1 9 hno he K1 hD1 hC1
  · simp -implicitDefEqProofs (disch := (first | omega | (simp only [lenB, lowB_len, numB_len, nsumB_len] <;> omega) | fail)) only [admQ, lenB, lowB_len, numB_len, nsumB_len, aFill, AK.cls, implies_true, if_true, if_false, seval, -List.reduceReplicate, sv.rd.len, beq_eq_false_iff_ne.mpr (show ¬ (b.length : Int) = 0 by omega)]
    refine (ans_scget (k := 1) (a := 0) hC1 sv.rd hk (by omega)).mono ?_
    rintro _ m2 ⟨k2, w2, rfl, rw2, bw2⟩
    have hgl : (getS c 1 0 b).p.length ≤ 100000 := by
      have : (getS c 1 0 b).p.length ≤ b.length := getS_le _ _ _ _
      omega
    generalize hS : getS c 1 0 b = S at *
    unfold secV
    simp -implicitDefEqProofs (disch := (first | omega | (simp only [lenB, lowB_len, numB_len, nsumB_len] <;> omega) | fail)) only [admQ, lenB, lowB_len, numB_len, nsumB_len, aFill, AK.cls, implies_true, if_true, if_false, seval, -List.reduceReplicate, (rd_one rw2).1, (rd_one rw2).2]
    have k3 := Kept.app [] m2 [.row [.int .i64 S.k, .int .i64 S.e, .int .i64 S.n, .int .i64 S.a, w2] false]
    have q3 : own (m2 ++ [.row [.int .i64 S.k, .int .i64 S.e, .int .i64 S.n, .int .i64 S.a, w2] false]) m2.length = some [.int .i64 S.k, .int .i64 S.e, .int .i64 S.n, .int .i64 S.a, w2] := by rw [own_app_at0]; rfl
    generalize m2 ++ [.row [.int .i64 S.k, .int .i64 S.e, .int .i64 S.n, .int .i64 S.a, w2] false] = E at *
    refine (ans_suget (rw2.kept0 k3) hgl).mono ?_
    rintro _ m4 ⟨k4, rfl⟩
    unfold geoV geoC
    simp -implicitDefEqProofs (disch := (first | omega | (simp only [lenB, lowB_len, numB_len, nsumB_len] <;> omega) | fail)) only [admQ, lenB, lowB_len, numB_len, nsumB_len, aFill, AK.cls, implies_true, if_true, if_false, seval, -List.reduceReplicate]
    generalize hG : getG S.p = G at *
    generalize hE5 : m4 ++ _ = E5
    have k5 : Kept [] m4 E5 := by rw [← hE5]; exact .app _ _ _
    have g5 : own E5 m4.length = some [.int .i64 G.s, .int .i64 G.n, .int .i64 G.b] := by rw [← hE5, own_app_at0]; rfl
    clear hE5
    have k15 := ((k2.trans k3).trans k4).trans k5
    have q5 := (k4.trans k5).own q3 (by simp)
    have o5 := k15.own o1 (by simp)
    have s5 := k15.own s1 (by simp)
    have K5 : Kept (Rd ++ Rc) m E5 := K1.trans k15.any
    have hD5 := hD1.kept0 k15
    have hC5 := hC1.kept0 k15
    have t1 := own_set (own_lt o5) [AV.int .i64 0, .int .i64 0, .int .i64 0]
    have t2 := own_set_ne' s5 (show m.length ≠ m.length + 1 by omega) (.row [AV.int .i64 0, .int .i64 0, .int .i64 0] false)
    have t3 := own_set (own_lt t2) (bys (List.replicate 32 0#8))
    have t4 := own_set_ne' t1 (show m.length + 1 ≠ m.length by omega) (.row (bys (List.replicate 32 0#8)) false)
    have bad' : ¬ srOk c b → _ := fun hno => bad E5 14 hno (by rw [srE, if_neg h0, if_neg hno]) K5 hD5 hC5
    by_cases hE : getE c 1 0 b = 0
    · by_cases hF : getGE S.p = 0
      · by_cases hN : S.n = 0
        · have hok : srOk c b := ⟨h0, hE, by rw [hS]; exact hF, by rw [hS]; exact hN⟩
          have e1 : srG c b = G := by rw [srG, if_pos hok, hS, hG]
          have e2 : srM c b = cySm c b := if_pos hok
          have e3 : srC c b = cyTx c b := if_pos hok
          have e4 : srE c b = 0 := by rw [srE, if_neg h0, if_pos hok]
          rw [e1, e2, e3, e4]
          simp -implicitDefEqProofs (disch := (first | omega | (simp only [lenB, lowB_len, numB_len, nsumB_len] <;> omega) | fail)) only [admQ, lenB, lowB_len, numB_len, nsumB_len, aFill, AK.cls, implies_true, if_true, if_false, seval, -List.reduceReplicate, hE, hF, hN, Bool.not_true, rowOf_own q5, rowOf_own g5, opW_invoke _ (cym_sum c), opDW_invoke _ (cym_sum c)]
          refine (ans_cysum hC5 (sv.rd.kept0 k15) (fun q hq h => by have := sv.low q hq; have := (hWcl q h).1; omega) ht (by omega)).mono ?_
          rintro _ m6 ⟨rfl, k6, hC6⟩
          have hWn : ∀ q, m.length ≤ q → q ∉ Wc := fun q h1 h2 => by have := (hWcl q h2).1; omega
          have o6 := k6.own o5 (hWn _ (Nat.le_refl _))
          have s6 := k6.own s5 (hWn _ (by omega))
          have g6 := k6.own g5 (hWn _ (by have := own_lt o5; have := k2.len; have := k3.len; have := k4.len; omega))
          have K6 : Kept (Rd ++ Rc) m m6 := K5.trans (k6.more (fun q hq _ => by simp [(hWcl q hq).2]))
          have hD6 := hD5.kept k6 (fun q hq h => hap q hq (hWcl q h).2)
          have hsl := cySm_len c b
          have hsp2 : splice (bys (List.replicate 32 0#8)) 0 (bys (cySm c b)) = bys (cySm c b) := splice_whole (by rw [hsl]; rfl)
          have htk2 : List.take 32 (bys (cySm c b)) = bys (cySm c b) := List.take_of_length_le (by rw [bys_len, hsl]; omega)
          have hbl : (bys (cySm c b)).length = 32 := by rw [bys_len, hsl]
          have u1 := own_set (own_lt o6) [AV.int .i64 G.s, .int .i64 G.n, .int .i64 G.b]
          have u2 := own_set_ne' s6 (show m.length ≠ m.length + 1 by omega) (.row [AV.int .i64 G.s, .int .i64 G.n, .int .i64 G.b] false)
          have u3 := own_set (own_lt u2) (bys (cySm c b))
          have u4 := own_set_ne' u1 (show m.length + 1 ≠ m.length by omega) (.row (bys (cySm c b)) false)
          simp -implicitDefEqProofs (disch := (first | omega | (simp only [lenB, lowB_len, numB_len, nsumB_len] <;> omega) | fail)) only [admQ, lenB, lowB_len, numB_len, nsumB_len, aFill, AK.cls, implies_true, if_true, if_false, seval, -List.reduceReplicate, rowOf_own g6, rowOf_own g5, o6, u1, u2, hz, hsp2, hbl, rowOf_own u3, rowOf_own u4, htk2]
          exact fin m6 _ _ K6 hD6 hC6
        · have hno : ¬ srOk c b := fun h => hN (by rw [← hS]; exact h.2.2.2)
          simp -implicitDefEqProofs (disch := (first | omega | (simp only [lenB, lowB_len, numB_len, nsumB_len] <;> omega) | fail)) only [admQ, lenB, lowB_len, numB_len, nsumB_len, aFill, AK.cls, implies_true, if_true, if_false, seval, -List.reduceReplicate, hE, hF, beq_eq_false_iff_ne.mpr hN, Bool.not_false, Bool.not_true, rowOf_own q5, o5, t1, t2, hz, hsp, rowOf_own t3, rowOf_own t4, htk]
          exact bad' hno
      · have hno : ¬ srOk c b := fun h => hF (by rw [← hS]; exact h.2.2.1)
        simp -implicitDefEqProofs (disch := (first | omega | (simp only [lenB, lowB_len, numB_len, nsumB_len] <;> omega) | fail)) only [admQ, lenB, lowB_len, numB_len, nsumB_len, aFill, AK.cls, implies_true, if_true, if_false, seval, -List.reduceReplicate, hE, beq_eq_false_iff_ne.mpr hF, Bool.not_false, Bool.not_true, rowOf_own q5, o5, t1, t2, hz, hsp, rowOf_own t3, rowOf_own t4, htk]
        exact bad' hno
    · have hno : ¬ srOk c b := fun h => hE h.2.1
      simp -implicitDefEqProofs (disch := (first | omega | (simp only [lenB, lowB_len, numB_len, nsumB_len] <;> omega) | fail)) only [admQ, lenB, lowB_len, numB_len, nsumB_len, aFill, AK.cls, implies_true, if_true, if_false, seval, -List.reduceReplicate, beq_eq_false_iff_ne.mpr hE, Bool.not_false, rowOf_own q5, o5, t1, t2, hz, hsp, rowOf_own t3, rowOf_own t4, htk]
      exact bad' hno
end Go.Proofs.Ytoegmnnecanhfaa
end
section
/- Superblocks over names: what was written is read; the known example. -/
namespace Go.Proofs.Ytoegmnnecanhfaa
open Go Go.Adm
set_option linter.unusedSimpArgs false
set_option linter.unusedVariables false
set_option maxRecDepth 100000
/-- A disk whose power does not fail. -/
def Calm (d : Dk) : Prop := d.off = false ∧ d.armed = false ∧ 1 ≤ d.lasts.length ∧ (d.cache.map (·.1)).Nodup
theorem calm_write {d : Dk} (h : Calm d) {b : List B8} (hb : b.length ≤ 1024) : writeE d 0 b = 0 ∧ Calm (writeD d 0 b) ∧ peekD (writeD d 0 b) 0 = b ∧ (writeD d 0 b).lasts = d.lasts := by
  obtain ⟨h1, h2, h3, h4⟩ := h
  have hi : okI d 0 := ⟨by omega, by omega⟩
  have hw : wrongD d 0 b = 0 := by rw [wrongD, if_neg (by simpa using hi), if_neg (by omega)]
  have hs : spendE d = 0 := by rw [spendE, if_neg (by simp [h1]), if_neg (by simp [h2])]
  have hd : spendD d = { d with left := IntKind.i64.wrap (d.left - 1) } := by rw [spendD, if_neg (by simp [h1]), if_neg (by simp [h2])]
  have hD : writeD d 0 b = { spendD d with cache := cPut d.cache 0 b, writes := IntKind.i64.wrap (d.writes + 1) } := by rw [writeD, if_neg (by simp [h1]), if_neg (by simp [hw]), if_neg (by simp [hs])]
  refine ⟨by rw [writeE, if_neg (by simp [h1]), if_neg (by simp [hw]), hs], ?_, ?_, ?_⟩
  · rw [hD, hd]; exact ⟨h1, h2, h3, cPut_keys h4⟩
  · rw [hD, peekD]
    simp only
    rw [cGet_put h4]; rfl
  · rw [hD, hd]
theorem calm_read {d : Dk} (h : Calm d) (i : Int) : Calm (readD d i) ∧ peekD (readD d i) 0 = peekD d 0 := ⟨h, rfl⟩
theorem calm_tamper {d : Dk} (h : Calm d) {b : List B8} (hb : b.length ≤ 1024) : wrongD d 0 b = 0 ∧ Calm (tamperD d 0 b) ∧ peekD (tamperD d 0 b) 0 = b := by
  obtain ⟨h1, h2, h3, h4⟩ := h
  have hi : okI d 0 := ⟨by omega, by omega⟩
  have hw : wrongD d 0 b = 0 := by rw [wrongD, if_neg (by simpa using hi), if_neg (by omega)]
  have hD : tamperD d 0 b = { d with lasts := d.lasts.set 0 b, cache := cDel d.cache 0 } := by rw [tamperD, if_neg (by simp [hw])]; rfl
  refine ⟨hw, ?_, ?_⟩
  · rw [hD]; exact ⟨h1, h2, by simpa using h3, cDel_keys h4⟩
  · rw [hD, peekD]
    simp only
    rw [cGet_del h4]
    simp only [Option.getD_none, Int.toNat_zero]
    rw [List.getElem?_set_self (by omega)]; rfl
theorem calm0 (n : Nat) (h : 1 ≤ n) : Calm (dk0 n) := ⟨rfl, rfl, by simpa [dk0] using h, by simp [dk0]⟩
theorem sup_len (c : CyS) (e : Int) (g : Geo) : (putL c (suS e g)).length ≤ 1024 := by
  by_cases h : okP (suS e g)
  · rw [putL_len h]; have := h.2.2; omega
  · rw [putL, if_neg h]; simp
theorem addN_again {α : Type} [DecidableEq α] (b : α) (T : List α) : addN b (addN b T) = addN b T ∧ posN b (addN b T) = posN b T := by
  obtain ⟨h1, h2⟩ := addN_in (fidx_addself b T)
  exact ⟨h1, by rw [h2]; have := (posN_le b T).1; omega⟩
/-- Over a calm disk: what is written, and is it. -/
def suOk (e : Int) (g : Geo) : Prop := okG g ∧ okP (suS e g)
instance (e : Int) (g : Geo) : Decidable (suOk e g) := by unfold suOk; infer_instance
theorem su_calm {d : Dk} (h : Calm d) (c : CyS) (e : Int) (g : Geo) : (suE d c e g = 0 ↔ suOk e g) ∧ Calm (suD d c e g) := by
  obtain ⟨w1, w2, -, -⟩ := calm_write h (sup_len c e g)
  unfold suE suD suOk
  by_cases h1 : errG g = 0
  · have h1' : ¬ (errG g ≠ 0) := by simp [h1]
    rw [if_neg h1', if_neg h1']
    by_cases h2 : errP (suS e g) = 0
    · have h2' : ¬ (errP (suS e g) ≠ 0) := by simp [h2]
      rw [if_neg h2', if_neg h2', w1]
      exact ⟨⟨fun _ => ⟨(errG_ok g).mp h1, (errP_ok _).mp h2⟩, fun _ => rfl⟩, w2⟩
    · rw [if_pos h2, if_pos h2]
      exact ⟨⟨fun h => absurd h h2, fun h => absurd ((errP_ok _).mpr h.2) h2⟩, h⟩
  · rw [if_pos h1, if_pos h1]
    exact ⟨⟨fun h => absurd h h1, fun h => absurd ((errG_ok g).mpr h.1) h1⟩, h⟩
theorem su_no {d : Dk} (h : Calm d) (c : CyS) {e : Int} {g : Geo} (hn : ¬ suOk e g) : suD d c e g = d ∧ suC d c e g = c := by
  unfold suD suC
  by_cases h1 : errG g = 0
  · have h1' : ¬ (errG g ≠ 0) := by simp [h1]
    have h2 : errP (suS e g) ≠ 0 := fun h2 => hn ⟨(errG_ok g).mp h1, (errP_ok _).mp h2⟩
    rw [if_neg h1', if_pos h2, if_neg h1', if_pos h2]; exact ⟨rfl, rfl⟩
  · rw [if_pos h1, if_pos h1]; exact ⟨rfl, rfl⟩
theorem su_back {d : Dk} (h : Calm d) {S : List Sd} {T : List (List B8)} {e : Int} {g : Geo} (hk : suOk e g) :
    suD d (.nm S T) e g = writeD d 0 (putL (.nm S T) (suS e g)) ∧ peekD (suD d (.nm S T) e g) 0 = putL (.nm S T) (suS e g) ∧ suC d (.nm S T) e g = .nm (putS S (suS e g)) (addN (putL (.nm S T) (suS e g)) T) ∧ suM d (.nm S T) e g = nsumB T (putL (.nm S T) (suS e g)) := by
  obtain ⟨w1, w2, w3, -⟩ := calm_write h (sup_len (.nm S T) e g)
  have h1' : ¬ (errG g ≠ 0) := by simp [(errG_ok g).mpr hk.1]
  have h2' : ¬ (errP (suS e g) ≠ 0) := by simp [(errP_ok _).mpr hk.2]
  have h3' : ¬ (writeE d 0 (putL (.nm S T) (suS e g)) ≠ 0) := by simp [w1]
  have hD : suD d (.nm S T) e g = writeD d 0 (putL (.nm S T) (suS e g)) := by rw [suD, if_neg h1', if_neg h2']
  refine ⟨hD, by rw [hD]; exact w3, ?_, ?_⟩
  · rw [suC, if_neg h1', if_neg h2', if_neg h3', putC_nm]; rfl
  · rw [suM, if_pos ((su_calm h _ e g).1.mpr hk), putC_nm]; rfl
/-- Bytes of a superblock that was sealed are read as it was. -/
theorem sr_back {S S2 : List Sd} {T T2 : List (List B8)} {e : Int} {g : Geo} (hk : suOk e g) (hs : cyHas (.nm S T) (.nm S2 T2) (secD (suS e g))) :
    srOk (.nm S2 T2) (putL (.nm S T) (suS e g)) ∧ srG (.nm S2 T2) (putL (.nm S T) (suS e g)) = g ∧ srM (.nm S2 T2) (putL (.nm S T) (suS e g)) = nsumB T2 (putL (.nm S T) (suS e g)) ∧ srC (.nm S2 T2) (putL (.nm S T) (suS e g)) = .nm S2 (addN (putL (.nm S T) (suS e g)) T2) ∧ srE (.nm S2 T2) (putL (.nm S T) (suS e g)) = 0 := by
  obtain ⟨p1, p2⟩ := get_put (c := .nm S T) hk.2 hs
  obtain ⟨q1, q2⟩ := get_putG hk.1
  have hl := putL_len (c := .nm S T) hk.2
  have p1' : getE (.nm S2 T2) 1 0 (putL (.nm S T) (suS e g)) = 0 := p1
  have p2' : getS (.nm S2 T2) 1 0 (putL (.nm S T) (suS e g)) = suS e g := p2
  have hok : srOk (.nm S2 T2) (putL (.nm S T) (suS e g)) := ⟨by omega, p1', by rw [p2']; exact q1, by rw [p2']; rfl⟩
  exact ⟨hok, by rw [srG, if_pos hok, p2']; exact q2, by rw [srM, if_pos hok]; rfl, by rw [srC, if_pos hok]; rfl, by rw [srE, if_neg hok.1, if_pos hok]⟩
theorem srM_len (c : CyS) (b : List B8) : (srM c b).length = 32 := by
  unfold srM; split
  · exact cySm_len c b
  · simp
theorem suM_len (d : Dk) (c : CyS) (e : Int) (g : Geo) : (suM d c e g).length = 32 := by
  unfold suM; split
  · exact cySm_len _ _
  · simp
/-- A digest stored over noughts. -/
theorem sm_facts {l : List B8} (h : l.length = 32) : (bys l).length = 32 ∧ splice (bys (List.replicate 32 0#8)) 0 (bys l) = bys l ∧ List.take 32 (bys l) = bys l :=
  ⟨by rw [bys_len, h], splice_whole (by rw [h]; rfl), List.take_of_length_le (by rw [bys_len, h]; omega)⟩
def smallG : Geo := ⟨18, 32, 4⟩
theorem ans_small (m : Mem) : Ans Try.prog 22 [] m fun r m' => r = geoV smallG ∧ Kept [] m m' := by
  refine ans_ret mixed ok22 ?_
  have h0 : own (m ++ [.row [.int .i64 0, .int .i64 0, .int .i64 0] false]) m.length = some [.int .i64 0, .int .i64 0, .int .i64 0] := by rw [own_app_at0]; rfl
  simp -implicitDefEqProofs (disch := (first | omega | (simp only [lenB, lowB_len, numB_len, nsumB_len] <;> omega) | fail)) only [admQ, lenB, lowB_len, numB_len, nsumB_len, aFill, AK.cls, implies_true, if_true, if_false, seval, -List.reduceReplicate, c22, r22]
  exact ⟨rfl, .app _ _ _⟩
theorem ans_suknown (m : Mem) : Ans Try.prog 6 [] m fun r m' => r = .bool true ∧ Kept [] m m' := by
  refine ans_ret mixed ok6 ?_
  simp -implicitDefEqProofs (disch := (first | omega | (simp only [lenB, lowB_len, numB_len, nsumB_len] <;> omega) | fail)) only [admQ, lenB, lowB_len, numB_len, nsumB_len, aFill, AK.cls, implies_true, if_true, if_false, seval, -List.reduceReplicate, c6, r6]
  have hnew := ans_dknew 5 (by omega) m
  refine Ans.mono hnew ?_
  rintro _ m1 ⟨k1, xd, Wd, Rd, rfl, hD, hRd⟩
  simp -implicitDefEqProofs (disch := (first | omega | (simp only [lenB, lowB_len, numB_len, nsumB_len] <;> omega) | fail)) only [admQ, lenB, lowB_len, numB_len, nsumB_len, aFill, AK.cls, implies_true, if_true, if_false, seval, -List.reduceReplicate]
  refine (ans_nnew m1).mono ?_
  rintro _ m2 ⟨xc, Wc, rfl, k2, hN, hWc⟩
  simp -implicitDefEqProofs (disch := (first | omega | (simp only [lenB, lowB_len, numB_len, nsumB_len] <;> omega) | fail)) only [admQ, lenB, lowB_len, numB_len, nsumB_len, aFill, AK.cls, implies_true, if_true, if_false, seval, -List.reduceReplicate]
  have hV : Vo m2 xd xc (Rd ++ Wc) (dk0 5) (.nm [] []) := ⟨Wd, Rd, Wc, Wc, hD.kept0 k2, ⟨hN, rfl⟩, fun q h1 h2 => by have := hD.lt q h1; have := hWc q h2; omega, rfl⟩
  have hz : (bys (List.replicate 32 0#8)).length = 32 := by simp
  have hB : ∀ q ∈ Rd ++ Wc, m.length ≤ q := fun q hq => by
    have := k1.len
    rcases List.mem_append.mp hq with h | h
    · exact hRd q h
    · have := hWc q h; omega
  have K2 := k1.trans k2
  have hp0 : peekD (dk0 5) 0 = [] := rfl
  generalize hBe : Rd ++ Wc = B at hV hB
  refine (ans_suread hV (show 0 ≤ 1000 by omega) (show 0 ≤ 1000 by omega) (by rw [hp0]; simp)).mono ?_
  rintro _ m3 ⟨rfl, k3, hV3⟩
  have hno : ¬ srOk (.nm [] []) [] := fun h => h.1 rfl
  rw [hp0] at hV3 ⊢
  have e9 : srE (.nm [] []) [] = 9 := if_pos rfl
  have ec : srC (.nm [] []) [] = .nm [] [] := if_neg hno
  rw [ec] at hV3
  rw [e9]
  obtain ⟨f1, f2, f3⟩ := sm_facts (srM_len (.nm [] []) [])
  generalize srM (.nm [] []) [] = M0 at *
  generalize srG (.nm [] []) [] = G0 at *
  unfold geoV geoC
  simp -implicitDefEqProofs (disch := (first | omega | (simp only [lenB, lowB_len, numB_len, nsumB_len] <;> omega) | fail)) only [admQ, lenB, lowB_len, numB_len, nsumB_len, aFill, AK.cls, implies_true, if_true, if_false, seval, -List.reduceReplicate, hz, f1, f2]
  have K3 : Kept [] m m3 := K2.upon k3 hB
  have hV4 := hV3.kept0 (.app [] m3 [.row [.int .i64 G0.s, .int .i64 G0.n, .int .i64 G0.b] false, .row (bys M0) false])
  have K4 := K3.more_app [.row [.int .i64 G0.s, .int .i64 G0.n, .int .i64 G0.b] false, .row (bys M0) false]
  generalize m3 ++ [.row [.int .i64 G0.s, .int .i64 G0.n, .int .i64 G0.b] false, .row (bys M0) false] = m4 at *
  refine (ans_small m4).mono ?_
  rintro _ m5 ⟨rfl, k5⟩
  have K5 := K4.trans k5
  unfold geoV
  simp -implicitDefEqProofs (disch := (first | omega | (simp only [lenB, lowB_len, numB_len, nsumB_len] <;> omega) | fail)) only [admQ, lenB, lowB_len, numB_len, nsumB_len, aFill, AK.cls, implies_true, if_true, if_false, seval, -List.reduceReplicate]
  refine (ans_suwrite (hV4.kept0 k5) 1 smallG (show 0 ≤ 999 by omega) (show 0 ≤ 1000 by omega)).mono ?_
  rintro _ m6 ⟨rfl, k6, B6, hV6, hB6⟩
  have hcalm : Calm (readD (dk0 5) 0) := (calm_read (calm0 5 (by omega)) 0).1
  have hok : suOk 1 smallG := by decide
  have hE0 := (su_calm hcalm (.nm [] []) 1 smallG).1.mpr hok
  obtain ⟨b1, b2, b3, b4⟩ := su_back hcalm (S := []) (T := []) hok
  have hcm := (su_calm hcalm (.nm [] []) 1 smallG).2
  obtain ⟨g1, g2, g3⟩ := sm_facts (suM_len (readD (dk0 5) 0) (.nm [] []) 1 smallG)
  rw [hE0]
  rw [b3] at hV6
  obtain ⟨r1, r2, r3, r4, r5⟩ := sr_back (S := []) (S2 := putS [] (suS 1 smallG)) (T := []) (T2 := addN (putL (.nm [] []) (suS 1 smallG)) []) hok (by have := putC_ok (c := .nm [] []) hok.2; rw [putC_nm] at this; exact this)
  have hsm : suM (readD (dk0 5) 0) (.nm [] []) 1 smallG = nsumB (addN (putL (.nm [] []) (suS 1 smallG)) []) (putL (.nm [] []) (suS 1 smallG)) := by
    rw [b4, nsumB, nsumB, (addN_again _ _).2]
  have hpl := sup_len (.nm [] []) 1 smallG
  have hsl := putS_len [] (suS 1 smallG)
  have htl := addN_len (putL (.nm [] []) (suS 1 smallG)) []
  rw [hsm] at g1 g2 g3 ⊢
  generalize nsumB (addN (putL (.nm [] []) (suS 1 smallG)) []) (putL (.nm [] []) (suS 1 smallG)) = SM at *
  generalize suD (readD (dk0 5) 0) (.nm [] []) 1 smallG = D6 at *
  simp -implicitDefEqProofs (disch := (first | omega | (simp only [lenB, lowB_len, numB_len, nsumB_len] <;> omega) | fail)) only [admQ, lenB, lowB_len, numB_len, nsumB_len, aFill, AK.cls, implies_true, if_true, if_false, seval, -List.reduceReplicate, hz, g1, g2]
  have K6 : Kept [] m m6 := K5.upon k6 hB
  have hB6' : ∀ q ∈ B6, m.length ≤ q := fun q hq => (hB6 q hq).elim (hB q) (fun h => by have := K5.len; omega)
  have k7 := Kept.app [] m6 [.row (bys SM) false]
  have s7 : own (m6 ++ [.row (bys SM) false]) m6.length = some (bys SM) := by rw [own_app_at0]; rfl
  generalize m6 ++ [.row (bys SM) false] = m7 at *
  have cT : ∀ (S : List Sd) (T : List (List B8)) (z : Nat), AV.iface 39 (.ptr z 0) = .iface (cyT (.nm S T)) (.ptr z 0) := fun _ _ _ => rfl
  rw [cT (putS [] (suS 1 smallG)) (addN (putL (.nm [] []) (suS 1 smallG)) [])]
  refine (ans_suread (hV6.kept0 k7) (show (putS [] (suS 1 smallG)).length ≤ 1000 by simp at hsl; omega) (show (addN (putL (.nm [] []) (suS 1 smallG)) []).length ≤ 1000 by simp at htl; omega) (by rw [b2]; omega)).mono ?_
  rintro _ m8 ⟨rfl, k8, hV8⟩
  rw [b2, r2, r3, r5]
  have hq6 : ∀ q, q ∈ B6 → q < m6.length := hV6.lt
  have s8 := k8.own s7 (fun h => by have := hq6 _ h; omega)
  have K8 : Kept [] m m8 := (K6.trans k7).upon k8 hB6'
  unfold geoV geoC
  simp -implicitDefEqProofs (disch := (first | omega | (simp only [lenB, lowB_len, numB_len, nsumB_len] <;> omega) | fail)) only [admQ, lenB, lowB_len, numB_len, nsumB_len, aFill, AK.cls, implies_true, if_true, if_false, seval, -List.reduceReplicate, hz, g1, g2]
  have k9 := Kept.app [] m8 [.row [.int .i64 smallG.s, .int .i64 smallG.n, .int .i64 smallG.b] false, .row (bys SM) false]
  have o9 : own (m8 ++ [.row [.int .i64 smallG.s, .int .i64 smallG.n, .int .i64 smallG.b] false, .row (bys SM) false]) m8.length = some [.int .i64 smallG.s, .int .i64 smallG.n, .int .i64 smallG.b] := by rw [own_app_at0]; rfl
  have p9 : own (m8 ++ [.row [.int .i64 smallG.s, .int .i64 smallG.n, .int .i64 smallG.b] false, .row (bys SM) false]) (m8.length + 1) = some (bys SM) := by rw [own_app_at]; rfl
  generalize m8 ++ [.row [.int .i64 smallG.s, .int .i64 smallG.n, .int .i64 smallG.b] false, .row (bys SM) false] = m9 at *
  have s9 := k9.own s8 (by simp)
  refine (ans_small m9).mono ?_
  rintro _ m10 ⟨rfl, k10⟩
  have o10 := k10.own o9 (by simp)
  have p10 := k10.own p9 (by simp)
  have s10 := k10.own s9 (by simp)
  have hSM : SM.length = 32 := by rw [bys_len] at g1; exact g1
  unfold geoV geoC
  simp -implicitDefEqProofs (disch := (first | omega | (simp only [lenB, lowB_len, numB_len, nsumB_len] <;> omega) | fail)) only [admQ, lenB, lowB_len, numB_len, nsumB_len, aFill, AK.cls, implies_true, if_true, if_false, seval, -List.reduceReplicate, rowOf_own o9, rowOf_own p9, rowOf_own s9, rowOf_own o10, rowOf_own p10, rowOf_own s10, g3, hz, g1, aEq_bys SM SM hSM hSM, beq_self_eq_true]
  exact ((K8.trans k9).trans k10)
end Go.Proofs.Ytoegmnnecanhfaa
end
section
/- Sectors, as the document has them: numbers as bytes. -/
namespace Go.Proofs.Ytoegmnnecanhfaa
open Go Go.Adm
set_option linter.unusedSimpArgs false
set_option linter.unusedVariables false
set_option maxRecDepth 100000
end Go.Proofs.Ytoegmnnecanhfaa
end
section
/- Geometries as the document has them. -/
namespace Go.Proofs.Ytoegmnnecanhfaa
open Go Go.Adm
set_option linter.unusedSimpArgs false
set_option linter.unusedVariables false
set_option maxRecDepth 100000
end Go.Proofs.Ytoegmnnecanhfaa
end
section
/- Geometries are put, and got, as the document says. -/
namespace Go.Proofs.Ytoegmnnecanhfaa
open Go Go.Adm
set_option linter.unusedSimpArgs false
set_option linter.unusedVariables false
set_option maxRecDepth 100000
end Go.Proofs.Ytoegmnnecanhfaa
end
section
/- Superblocks over names: only what was written is read; purely. -/
namespace Go.Proofs.Ytoegmnnecanhfaa
open Go Go.Adm
set_option linter.unusedSimpArgs false
set_option linter.unusedVariables false
set_option maxRecDepth 100000
/-- What was written: an epoch, a geometry. -/
abbrev En := Int × Geo
def eB (S : List Sd) (p : En) : List B8 := putL (.nm S []) (suS p.1 p.2)
theorem eB_any (S : List Sd) (T : List (List B8)) (p : En) : putL (.nm S T) (suS p.1 p.2) = eB S p := rfl
structure FP (P : List En) (S : List Sd) (T : List (List B8)) : Prop where
  ok : ∀ p ∈ P, suOk p.1 p.2
  inS : ∀ p ∈ P, secD (suS p.1 p.2) ∈ S
  fromS : ∀ t ∈ S, ∃ p ∈ P, t = secD (suS p.1 p.2)
  inT : ∀ p ∈ P, eB S p ∈ T
theorem FP.nil : FP [] [] [] := ⟨by simp, by simp, by simp, by simp⟩
theorem nsumB_stays {T : List (List B8)} {b c : List B8} (h : b ∈ T) : nsumB (addN c T) b = nsumB T b := by
  cases hf : fidx b T with
  | none => exact absurd h (fidx_none.mp hf)
  | some i => rw [nsumB, nsumB, (addN_in (fidx_add (b := c) hf)).2, (addN_in hf).2]
theorem mem_addN {α : Type} [DecidableEq α] {a b : α} {T : List α} (h : a ∈ T) : a ∈ addN b T := by
  unfold addN; split
  · exact h
  · simp [h]
theorem self_addN {α : Type} [DecidableEq α] (b : α) (T : List α) : b ∈ addN b T := by
  unfold addN; split
  · assumption
  · simp
theorem FP.stays {P : List En} {S : List Sd} {T : List (List B8)} (h : FP P S T) {e : Int} {g : Geo} {p : En} (hp : p ∈ P) : eB (putS S (suS e g)) p = eB S p ∧ nsumB (addN (eB S (e, g)) T) (eB S p) = nsumB T (eB S p) :=
  ⟨putL_mem (h.inS p hp), nsumB_stays (h.inT p hp)⟩
theorem eB_self {S : List Sd} {e : Int} {g : Geo} (hk : suOk e g) : eB (putS S (suS e g)) (e, g) = eB S (e, g) := by
  have := putL_same (c := .nm S []) hk.2
  rwa [putC_nm] at this
theorem FP.add {P : List En} {S : List Sd} {T : List (List B8)} (h : FP P S T) {e : Int} {g : Geo} (hk : suOk e g) : FP (P ++ [(e, g)]) (putS S (suS e g)) (addN (eB S (e, g)) T) where
  ok p hp := by
    rcases List.mem_append.mp hp with hp | hp
    · exact h.ok p hp
    · rw [List.mem_singleton] at hp; subst hp; exact hk
  inS p hp := by
    rcases List.mem_append.mp hp with hp | hp
    · exact putS_mem.mpr (.inl (h.inS p hp))
    · rw [List.mem_singleton] at hp; subst hp; exact putS_mem.mpr (.inr ⟨rfl, hk.2⟩)
  fromS t ht := by
    rcases putS_mem.mp ht with ht | ⟨rfl, _⟩
    · obtain ⟨p, hp, rfl⟩ := h.fromS t ht; exact ⟨p, by simp [hp], rfl⟩
    · exact ⟨(e, g), by simp, rfl⟩
  inT p hp := by
    rcases List.mem_append.mp hp with hp | hp
    · rw [(h.stays hp).1]; exact mem_addN (h.inT p hp)
    · rw [List.mem_singleton] at hp; subst hp; rw [eB_self hk]; exact self_addN _ _
/-- Laid bytes that were written are read as they were. -/
theorem FP.found {P : List En} {S : List Sd} {T : List (List B8)} (h : FP P S T) {p : En} (hp : p ∈ P) : srE (.nm S T) (eB S p) = 0 ∧ srG (.nm S T) (eB S p) = p.2 ∧ srM (.nm S T) (eB S p) = nsumB T (eB S p) := by
  obtain ⟨h1, h2, h3, h4, h5⟩ := sr_back (S := S) (T := []) (S2 := S) (T2 := T) (h.ok p hp) (has_mem.mpr (h.inS p hp))
  exact ⟨h5, h2, h3⟩
/-- Others are refused. -/
theorem FP.refused {P : List En} {S : List Sd} {T : List (List B8)} (h : FP P S T) {b : List B8} (hb : b.length ≠ 0) (hn : ∀ p ∈ P, eB S p ≠ b) : srE (.nm S T) b = 14 ∧ srG (.nm S T) b = geo0 ∧ srM (.nm S T) b = List.replicate 32 0#8 := by
  have hno : ¬ srOk (.nm S T) b := by
    rintro ⟨-, h2, -⟩
    obtain ⟨p1, p2, p3, p4, p5⟩ := put_get h2
    obtain ⟨p, hp, he⟩ := h.fromS _ (has_mem.mp p5)
    have := secD_inj p1 (h.ok p hp).2 he
    rw [this] at p4
    exact hn p hp p4
  exact ⟨by rw [srE, if_neg hb, if_neg hno], if_neg hno, if_neg hno⟩
theorem sr_empty (c : CyS) : srE c [] = 9 := if_pos rfl
/-- Lists of geometries, of integers. -/
def RdGeos (m : Mem) (x : AV) (L : List Geo) : Prop := (x = .nils ∧ L = []) ∨ ∃ p cap, x = .sl p 0 L.length cap 0 ∧ rowOf m p = some (flatOf geoC L)
def RdInts (m : Mem) (x : AV) (E : List Int) : Prop := (x = .nils ∧ E = []) ∨ ∃ p cap, x = .sl p 0 E.length cap 0 ∧ rowOf m p = some (E.map (.int .i64))
theorem RdGeos.len {m : Mem} {x : AV} {L : List Geo} (h : RdGeos m x L) : pLen [x] = some (.int .i64 L.length) := by
  rcases h with ⟨rfl, rfl⟩ | ⟨b, cap, rfl, _⟩ <;> rfl
theorem RdInts.len {m : Mem} {x : AV} {L : List Int} (h : RdInts m x L) : pLen [x] = some (.int .i64 L.length) := by
  rcases h with ⟨rfl, rfl⟩ | ⟨b, cap, rfl, _⟩ <;> rfl
theorem geoC_len (g : Geo) : (geoC g).length = 3 := rfl
theorem IsRecs.geos {m : Mem} {x : AV} {dss : List (List Adm.Fd)} (h : IsRecs [.i .i64, .i .i64, .i .i64] dss x m) : ∃ L, dss.length = L.length ∧ RdGeos m x L := by
  rcases h with ⟨rfl, rfl⟩ | ⟨b, cap, xs, rfl, h2, h3, h4⟩
  · exact ⟨[], rfl, .inl ⟨rfl, rfl⟩⟩
  · have key : ∀ (dss : List (List Adm.Fd)) (xs : List AV), (∀ ds ∈ dss, ds.length = 3) → RdCs m (List.replicate dss.length [Fk.i .i64, .i .i64, .i .i64]).flatten dss.flatten xs → ∃ L : List Geo, dss.length = L.length ∧ xs = flatOf geoC L := by
      intro dss
      induction dss with
      | nil => intro xs _ h; obtain ⟨_, rfl⟩ := h.none; exact ⟨[], rfl, rfl⟩
      | cons d r ih =>
        intro xs hl h
        have hd := hl d (by simp)
        match d, hd with
        | [y1, y2, y3], _ =>
          simp only [List.length_cons, List.replicate_succ, List.flatten_cons, List.cons_append, List.nil_append] at h
          obtain ⟨n1, d1, x1, e1, rfl, _, h⟩ := h.int
          simp only [List.cons.injEq] at e1
          obtain ⟨rfl, rfl⟩ := e1
          obtain ⟨n2, d2, x2, e2, rfl, _, h⟩ := h.int
          simp only [List.cons.injEq] at e2
          obtain ⟨rfl, rfl⟩ := e2
          obtain ⟨n3, d3, x3, e3, rfl, _, h⟩ := h.int
          simp only [List.cons.injEq] at e3
          obtain ⟨rfl, rfl⟩ := e3
          obtain ⟨L, i1, i2⟩ := ih x3 (fun ds h => hl ds (by simp [h])) h
          exact ⟨⟨n1, n2, n3⟩ :: L, by simp [i1], by rw [i2]; rfl⟩
    obtain ⟨L, k1, k2⟩ := key dss xs h4 h3
    exact ⟨L, k1, .inr ⟨b, cap, by rw [k1], by rw [h2, k2]⟩⟩
theorem IsRecs.ints {m : Mem} {x : AV} {dss : List (List Adm.Fd)} (h : IsRecs [.i .i64] dss x m) : ∃ L, dss.length = L.length ∧ RdInts m x L := by
  rcases h with ⟨rfl, rfl⟩ | ⟨b, cap, xs, rfl, h2, h3, h4⟩
  · exact ⟨[], rfl, .inl ⟨rfl, rfl⟩⟩
  · have key : ∀ (dss : List (List Adm.Fd)) (xs : List AV), (∀ ds ∈ dss, ds.length = 1) → RdCs m (List.replicate dss.length [Fk.i .i64]).flatten dss.flatten xs → ∃ L : List Int, dss.length = L.length ∧ xs = L.map (.int .i64) := by
      intro dss
      induction dss with
      | nil => intro xs _ h; obtain ⟨_, rfl⟩ := h.none; exact ⟨[], rfl, rfl⟩
      | cons d r ih =>
        intro xs hl h
        have hd := hl d (by simp)
        match d, hd with
        | [y1], _ =>
          simp only [List.length_cons, List.replicate_succ, List.flatten_cons, List.cons_append, List.nil_append] at h
          obtain ⟨n1, d1, x1, e1, rfl, _, h⟩ := h.int
          simp only [List.cons.injEq] at e1
          obtain ⟨rfl, rfl⟩ := e1
          obtain ⟨L, i1, i2⟩ := ih x1 (fun ds h => hl ds (by simp [h])) h
          exact ⟨n1 :: L, by simp [i1], by rw [i2]; rfl⟩
    obtain ⟨L, k1, k2⟩ := key dss xs h4 h3
    exact ⟨L, k1, .inr ⟨b, cap, by rw [k1], by rw [h2, k2]⟩⟩
/-- The disk of a volume, read and tampered with. -/
theorem ans_voread {m : Mem} {xd xc : Nat} {B : List Nat} {d : Dk} {c : CyS} (hV : Vo m xd xc B d c) (hl : (peekD d 0).length ≤ 1000000) :
    Ans Try.prog 17 [.ptr xd 0, .int .i64 0] m fun r m' => Kept B m m' ∧ Vo m' xd xc B (readD d 0) c ∧ ∃ v, r = .tup [v, .int .i64 0] ∧ SPb m.length m' v (peekD d 0) := by
  obtain ⟨Wd, Rd, Wc, Rc, hD, hC, hap, rfl⟩ := hV
  have hsz := hD.sz
  refine (ans_dkread (i := 0) hD (by omega) hl).mono ?_
  rintro r m' ⟨h1, h2, h3⟩
  exact ⟨h1.more (fun q hq _ => by simp [hD.sub q hq]), ⟨Wd, Rd, Wc, Rc, h2, hC.kept h1 (fun q hq h => hap q (hD.sub q h) hq), hap, rfl⟩, h3⟩
theorem ans_votamper {m : Mem} {xd xc : Nat} {B : List Nat} {d : Dk} {c : CyS} {y : AV} {b : List B8} (hV : Vo m xd xc B d c) (hy : RdB m y b) (hl : b.length ≤ 100000) :
    Ans Try.prog 21 [.ptr xd 0, .int .i64 0, y] m fun r m' => r = .int .i64 (wrongD d 0 b) ∧ Kept B m m' ∧ ∃ B', Vo m' xd xc B' (tamperD d 0 b) c ∧ ∀ q ∈ B', q ∈ B ∨ m.length ≤ q := by
  obtain ⟨Wd, Rd, Wc, Rc, hD, hC, hap, rfl⟩ := hV
  refine (ans_dktamper hD hy hl 0).mono ?_
  rintro r m' ⟨h0, h1, R', h2, h3⟩
  refine ⟨h0, h1.more (fun q hq _ => by simp [hD.sub q hq]), R' ++ Rc, ⟨Wd, R', Wc, Rc, h2, hC.kept h1 (fun q hq h => hap q (hD.sub q h) hq), fun q hq h => (h3 q hq).elim (fun h' => hap q h' h) (fun h' => by have := hC.lt q h; omega), rfl⟩, fun q hq => ?_⟩
  rcases List.mem_append.mp hq with h | h
  · exact (h3 q h).imp (fun h => by simp [h]) id
  · exact .inl (by simp [h])
end Go.Proofs.Ytoegmnnecanhfaa
end
section
/- Superblocks over names: only what was written is read; walked. -/
namespace Go.Proofs.Ytoegmnnecanhfaa
open Go Go.Adm
set_option linter.unusedSimpArgs false
set_option linter.unusedVariables false
set_option maxRecDepth 100000
/-- What is kept of what was written: the rows, the geometries, the digests. -/
structure Kp (m : Mem) (B : List Nat) (P : List En) (S : List Sd) (T : List (List B8)) (rv gv sv : AV) (N : Mem) : Prop where
  rows : ∃ rc, GrA 1 m.length N rv rc ∧ rc.length = P.length ∧ ∀ (j : Nat) p, P[j]? = some p → ∃ x, rc[j]? = some x ∧ RdB N x (eB S p) ∧ ∀ q ∈ blkOf x, q ∉ B ∧ q ∉ blkOf rv ∧ q ∉ blkOf gv ∧ q ∉ blkOf sv
  geos : GrA 3 m.length N gv (flatOf geoC (P.map (·.2)))
  sums : GrA 32 m.length N sv (flatOf bys (P.map fun p => nsumB T (eB S p)))
  ap : (∀ q ∈ blkOf rv, q ∉ B ∧ q ∉ blkOf gv ∧ q ∉ blkOf sv) ∧ (∀ q ∈ blkOf gv, q ∉ B ∧ q ∉ blkOf sv) ∧ ∀ q ∈ blkOf sv, q ∉ B
theorem Kp.nil (m : Mem) (B : List Nat) (N : Mem) : Kp m B [] [] [] .nils .nils .nils N :=
  ⟨⟨[], .nils .., rfl, by simp⟩, .nils .., .nils .., by simp [blkOf], by simp [blkOf], by simp [blkOf]⟩
/-- The volume's blocks may change. -/
theorem Kp.kept {m N N' : Mem} {B B' : List Nat} {P : List En} {S : List Sd} {T : List (List B8)} {rv gv sv : AV} (h : Kp m B P S T rv gv sv N) (hk : Kept B N N') (hB : ∀ q ∈ B', q ∈ B ∨ N.length ≤ q) : Kp m B' P S T rv gv sv N' := by
  obtain ⟨⟨rc, r1, r2, r3⟩, hg, hs, a1, a2, a3⟩ := h
  have nb : ∀ q, q < N.length → q ∉ B → q ∉ B' := fun q h1 h2 h3 => (hB q h3).elim h2 (fun h => by omega)
  refine ⟨⟨rc, r1.kept hk (fun q hq => (a1 q hq).1), r2, fun j p hp => ?_⟩, hg.kept hk (fun q hq => (a2 q hq).1), hs.kept hk a3, fun q hq => ⟨nb q (r1.lt q hq) (a1 q hq).1, (a1 q hq).2⟩, fun q hq => ⟨nb q (hg.lt q hq) (a2 q hq).1, (a2 q hq).2⟩, fun q hq => nb q (hs.lt q hq) (a3 q hq)⟩
  obtain ⟨x, e1, e2, e3⟩ := r3 j p hp
  exact ⟨x, e1, rdb_ap e2 hk (fun q hq => (e3 q hq).1), fun q hq => ⟨nb q (e2.blk_lt q hq) (e3 q hq).1, (e3 q hq).2⟩⟩
theorem Kp.kept0 {m N N' : Mem} {B : List Nat} {P : List En} {S : List Sd} {T : List (List B8)} {rv gv sv : AV} (h : Kp m B P S T rv gv sv N) (hk : Kept [] N N') : Kp m B P S T rv gv sv N' :=
  h.kept hk.any (fun q hq => .inl hq)
/-- What is sealed and summed more changes nothing of it. -/
theorem Kp.more {m N : Mem} {B : List Nat} {P : List En} {S : List Sd} {T : List (List B8)} {rv gv sv : AV} (h : Kp m B P S T rv gv sv N) (hf : FP P S T) (e : Int) (g : Geo) : Kp m B P (putS S (suS e g)) (addN (eB S (e, g)) T) rv gv sv N := by
  obtain ⟨⟨rc, r1, r2, r3⟩, hg, hs, ha⟩ := h
  have e1 : (P.map fun p => nsumB (addN (eB S (e, g)) T) (eB (putS S (suS e g)) p)) = P.map fun p => nsumB T (eB S p) := List.map_congr_left fun p hp => by rw [(hf.stays (e := e) (g := g) hp).1, (hf.stays (e := e) (g := g) hp).2]
  refine ⟨⟨rc, r1, r2, fun j p hp => ?_⟩, hg, by rw [e1]; exact hs, ha⟩
  rw [(hf.stays (e := e) (g := g) (List.mem_of_getElem? hp)).1]
  exact r3 j p hp
structure FJ (m : Mem) (L : List Geo) (xd xc : Nat) (i : Nat) (B : List Nat) (P : List En) (S : List Sd) (T : List (List B8)) (d : Dk) (rv gv sv : AV) (N : Mem) : Prop where
  le : i ≤ L.length ∧ i ≤ 20
  kept : Kept [] m N
  vo : Vo N xd xc B d (.nm S T)
  low : ∀ q ∈ B, m.length ≤ q
  calm : Calm d
  pk : (peekD d 0).length ≤ 1024
  fp : FP P S T
  sz : P.length ≤ i ∧ S.length ≤ i ∧ T.length ≤ i
  kp : Kp m B P S T rv gv sv N
def pk (k : Int) (n : Nat) : Nat := (k % (n : Int)).toNat
theorem pk_lt (k : Int) {n : Nat} (h : 0 < n) : pk k n < n := by
  have := Int.emod_lt_of_pos k (show (0 : Int) < n by omega)
  have := Int.emod_nonneg k (show (n : Int) ≠ 0 by omega)
  unfold pk; omega
theorem ans_pick (k : Int) (n : Nat) (hn : 0 < n) (hn2 : n < 1000000000) (m : Mem) : Ans Try.prog 20 [.int .i64 k, .int .i64 n] m fun r m' => r = .int .i64 (pk k n) ∧ m' = m := by
  refine ans_ret mixed ok20 ?_
  have h1 := Int.emod_lt_of_pos k (show (0 : Int) < n by omega)
  have h2 := Int.emod_nonneg k (show (n : Int) ≠ 0 by omega)
  have h3 : k.tmod n = if 0 ≤ k ∨ k % n = 0 then k % n else k % n - n := by
    rw [Int.tmod_eq_emod]
    have hd : (n : Int) ∣ k ↔ k % n = 0 := Int.dvd_iff_emod_eq_zero
    simp only [hd]
    split
    · simp_all
    · simp
  have hz : ¬ (n : Int) = 0 := by omega
  have hpk : ((pk k n : Nat) : Int) = k % n := by unfold pk; omega
  rw [hpk]
  generalize k % (n : Int) = r at *
  by_cases hc : 0 ≤ k ∨ r = 0
  · rw [if_pos hc] at h3
    simp -implicitDefEqProofs (disch := (first | omega | (simp only [lenB, lowB_len, numB_len, nsumB_len] <;> omega) | fail)) only [admQ, lenB, lowB_len, numB_len, nsumB_len, aFill, AK.cls, implies_true, if_true, if_false, seval, -List.reduceReplicate, c20, r20, h3, hz]
  · rw [if_neg hc] at h3
    simp -implicitDefEqProofs (disch := (first | omega | (simp only [lenB, lowB_len, numB_len, nsumB_len] <;> omega) | fail)) only [admQ, lenB, lowB_len, numB_len, nsumB_len, aFill, AK.cls, implies_true, if_true, if_false, seval, -List.reduceReplicate, c20, r20, h3, hz]
    congr 1; omega
theorem ans_copybytes2 {m : Mem} {x : AV} {l : List B8} (hx : RdB m x l) (hl : l.length ≤ 1000000000) :
    Ans Try.prog 19 [x] m fun r m' => Kept [] m m' ∧ GrB m.length m' r l ∧ ∀ q ∈ blkOf r, m.length ≤ q := by
  refine ans_ret mixed ok19 ?_
  simp -implicitDefEqProofs (disch := (first | omega | (simp only [lenB, lowB_len, numB_len, nsumB_len] <;> omega) | fail)) only [admQ, lenB, lowB_len, numB_len, nsumB_len, aFill, AK.cls, implies_true, if_true, if_false, seval, -List.reduceReplicate, c19, r19]
  refine LoopW.on (fun t : Nat × AV => [(0, x), (3, t.2), (4, .int .i64 t.1)]) (fun t => l.length - t.1) (fun t M => t.1 ≤ l.length ∧ Kept [] m M ∧ GrB m.length M t.2 (l.take t.1) ∧ ∀ q ∈ blkOf t.2, m.length ≤ q) ?_ (0, .nils) _ _ rfl ⟨by simp, .refl _ _, .nils .., by simp [blkOf]⟩
  rintro ⟨i, y⟩ M X ⟨hi, kk, g, hb⟩ hX
  change GrB m.length M y (l.take i) at g
  simp only at hi hb
  by_cases hlt : i < l.length
  · have hlen := hx.len
    obtain ⟨b, o, cap, s, c, rfl, hrow, hat, _⟩ := hx.cons hlt
    have hr := kk.row hrow (by simp)
    have e := hat i hlt
    have hkl := kk.len
    simp -implicitDefEqProofs (disch := (first | omega | (simp only [lenB, lowB_len, numB_len, nsumB_len] <;> omega) | fail)) only [admQ, lenB, lowB_len, numB_len, nsumB_len, aFill, AK.cls, implies_true, if_true, if_false, seval, -List.reduceReplicate, hlen, hr, e]
    obtain ⟨x3, m3, e3, g3, k3, a3, n3⟩ := GrA.push5 (sz := 1) (bytes := 1) (l := [b8 (gb l i)]) g Nat.one_pos rfl (by simp; omega) kk.len
    refine someW_eq e3 ?_
    simp -implicitDefEqProofs (disch := (first | omega | (simp only [lenB, lowB_len, numB_len, nsumB_len] <;> omega) | fail)) only [admQ, lenB, lowB_len, numB_len, nsumB_len, aFill, AK.cls, implies_true, if_true, if_false, seval, -List.reduceReplicate]
    refine hX (i + 1, x3) _ _ rfl (by simp only; omega) ⟨by simp only; omega, a3 _ _ kk (Nat.le_refl _), ?_, fun q hq => by have := n3 q hq; omega⟩
    show GrB m.length m3 x3 (l.take (i + 1))
    rw [take_gb hlt]
    simpa [GrB, bys] using g3
  · obtain rfl : i = l.length := by omega
    rw [List.take_length] at g
    simp -implicitDefEqProofs (disch := (first | omega | (simp only [lenB, lowB_len, numB_len, nsumB_len] <;> omega) | fail)) only [admQ, lenB, lowB_len, numB_len, nsumB_len, aFill, AK.cls, implies_true, if_true, if_false, seval, -List.reduceReplicate, hx.len]
    exact ⟨kk, g, hb⟩
theorem flatOf_map_snoc {α β : Type} (f : β → List AV) (k : α → β) (l : List α) (x : α) : flatOf f ((l ++ [x]).map k) = flatOf f (l.map k) ++ f (k x) := by simp [flatOf]
theorem foundTail {m M : Mem} {xd xc : Nat} {B : List Nat} {P : List En} {S : List Sd} {T : List (List B8)} {d : Dk} {rv gv sv v : AV} {b : List B8} (hK : Kept [] m M) (hV : Vo M xd xc B d (.nm S T)) (low : ∀ q ∈ B, m.length ≤ q) (hcalm : Calm d) (hfp : FP P S T) (hP : P.length ≤ 20) (hST : S.length ≤ 20 ∧ T.length ≤ 20) (hkp : Kp m B P S T rv gv sv M) (hv : RdB M v b) (hb : b.length ≤ 2048) (hvB : ∀ q ∈ blkOf v, q ∉ B) :
    wpA Try.prog d4_12 [(9, .ptr xd 0), (11, .ptr xc 0), (12, rv), (13, gv), (14, sv), (24, v)] M (retQ [.tmp 8] fun r m' => r = .bool true ∧ Kept [] m m') := by
  have known : ∀ M, Kept [] m M → Ans Try.prog 6 [] M fun r m' => r = .bool true ∧ Kept [] m m' := fun M hk => (ans_suknown M).mono fun r m' ⟨h1, h2⟩ => ⟨h1, hk.trans h2⟩
  by_cases h1 : (b.length : Int) > 1024
  · simp -implicitDefEqProofs (disch := (first | omega | (simp only [lenB, lowB_len, numB_len, nsumB_len] <;> omega) | fail)) only [admQ, lenB, lowB_len, numB_len, nsumB_len, aFill, AK.cls, implies_true, if_true, if_false, seval, -List.reduceReplicate, q4, d4_1, d4_2, d4_3, d4_4, d4_7, d4_8, d4_9, d4_10, d4_12, d4_13, d4_14, d4_15, d4_16, d4_17, d4_18, hv.len, dec_t h1]
    refine (known _ hK).mono ?_
    rintro _ m3 ⟨rfl, k3⟩
    simp -implicitDefEqProofs (disch := (first | omega | (simp only [lenB, lowB_len, numB_len, nsumB_len] <;> omega) | fail)) only [admQ, lenB, lowB_len, numB_len, nsumB_len, aFill, AK.cls, implies_true, if_true, if_false, seval, -List.reduceReplicate]
    exact k3
  simp -implicitDefEqProofs (disch := (first | omega | (simp only [lenB, lowB_len, numB_len, nsumB_len] <;> omega) | fail)) only [admQ, lenB, lowB_len, numB_len, nsumB_len, aFill, AK.cls, implies_true, if_true, if_false, seval, -List.reduceReplicate, q4, d4_1, d4_2, d4_3, d4_4, d4_7, d4_8, d4_9, d4_10, d4_12, d4_13, d4_14, d4_15, d4_16, d4_17, d4_18, hv.len, dec_f h1]
  have hb1 : b.length ≤ 1024 := by omega
  obtain ⟨-, hc1, hp1⟩ := calm_tamper hcalm hb1
  refine (ans_votamper hV hv (by omega)).mono ?_
  rintro _ m1 ⟨rfl, k1, B1, hV1, hB1⟩
  have low1 : ∀ q ∈ B1, m.length ≤ q := fun q hq => (hB1 q hq).elim (low q) (fun h => by have := hK.len; omega)
  have hkp1 := hkp.kept k1 hB1
  have hv1 := rdb_ap hv k1 hvB
  have hvB1 : ∀ q ∈ blkOf v, q ∉ B1 := fun q hq h => (hB1 q h).elim (hvB q hq) (fun h => by have := hv.blk_lt q hq; omega)
  have K1 := hK.upon k1 low
  simp -implicitDefEqProofs (disch := (first | omega | (simp only [lenB, lowB_len, numB_len, nsumB_len] <;> omega) | fail)) only [admQ, lenB, lowB_len, numB_len, nsumB_len, aFill, AK.cls, implies_true, if_true, if_false, seval, -List.reduceReplicate]
  have cT : ∀ (S : List Sd) (T : List (List B8)) (z : Nat), AV.iface 39 (.ptr z 0) = .iface (cyT (.nm S T)) (.ptr z 0) := fun _ _ _ => rfl
  rw [cT S T]
  refine (ans_suread hV1 (show S.length ≤ 1000 by omega) (show T.length ≤ 1000 by omega) (by rw [hp1]; omega)).mono ?_
  rintro _ m2 ⟨rfl, k2, hV2⟩
  rw [hp1]
  have hv2 := rdb_ap hv1 k2 hvB1
  have hkp2 := hkp1.kept k2 (fun q hq => .inl hq)
  have K2 := K1.upon k2 low1
  have hSMl : (srM (.nm S T) b).length = 32 := by unfold srM; split; exact nsumB_len _ _; exact List.length_replicate ..
  obtain ⟨f1, f2, f3⟩ := sm_facts hSMl
  have hz : (bys (List.replicate 32 0#8)).length = 32 := by simp
  unfold geoV
  generalize hg : srG (.nm S T) b = g
  generalize hM : srM (.nm S T) b = SM at f1 f2 f3 hSMl ⊢
  generalize hE : srE (.nm S T) b = E
  have hsg : splice [AV.int .i64 0, .int .i64 0, .int .i64 0] 0 (geoC g) = geoC g := rfl
  simp -implicitDefEqProofs (disch := (first | omega | (simp only [lenB, lowB_len, numB_len, nsumB_len] <;> omega) | fail)) only [admQ, lenB, lowB_len, numB_len, nsumB_len, aFill, AK.cls, implies_true, if_true, if_false, seval, -List.reduceReplicate, hz, f1, f2, geoC_len g, hsg]
  have k3 := Kept.app [] m2 [.row (geoC g) false, .row (bys SM) false]
  have g3 : own (m2 ++ [.row (geoC g) false, .row (bys SM) false]) m2.length = some [.int .i64 g.s, .int .i64 g.n, .int .i64 g.b] := by rw [own_app_at0]; rfl
  have s3 : own (m2 ++ [.row (geoC g) false, .row (bys SM) false]) (m2.length + 1) = some (bys SM) := by rw [own_app_at]; rfl
  generalize m2 ++ [.row (geoC g) false, .row (bys SM) false] = M3 at *
  have hv3 := hv2.kept0 k3
  have hkp3 := hkp2.kept0 k3
  have K3 := K2.trans k3
  by_cases h2 : (b.length : Int) = 0
  · have hE9 : E = 9 := by rw [← hE, List.length_eq_zero_iff.mp (by omega : b.length = 0), sr_empty]
    simp -implicitDefEqProofs (disch := (first | omega | (simp only [lenB, lowB_len, numB_len, nsumB_len] <;> omega) | fail)) only [admQ, lenB, lowB_len, numB_len, nsumB_len, aFill, AK.cls, implies_true, if_true, if_false, seval, -List.reduceReplicate, hv3.len, beq_iff_eq.mpr h2, hE9]
    refine (known _ K3).mono ?_
    rintro _ m3 ⟨rfl, k3⟩
    simp -implicitDefEqProofs (disch := (first | omega | (simp only [lenB, lowB_len, numB_len, nsumB_len] <;> omega) | fail)) only [admQ, lenB, lowB_len, numB_len, nsumB_len, aFill, AK.cls, implies_true, if_true, if_false, seval, -List.reduceReplicate]
    exact k3
  simp -implicitDefEqProofs (disch := (first | omega | (simp only [lenB, lowB_len, numB_len, nsumB_len] <;> omega) | fail)) only [admQ, lenB, lowB_len, numB_len, nsumB_len, aFill, AK.cls, implies_true, if_true, if_false, seval, -List.reduceReplicate, hv3.len, beq_eq_false_iff_ne.mpr h2]
  obtain ⟨⟨rc, gr1, gr2, gr3⟩, gg, gs, ap⟩ := hkp3
  refine LoopW.on (fun j : Nat => [(12, rv), (13, gv), (14, sv), (24, v), (25, .ptr m2.length 0), (26, .ptr (m2.length + 1) 0), (27, .int .i64 E), (28, .int .i64 j)]) (fun j => P.length - j) (fun j N => N = M3 ∧ j ≤ P.length ∧ ∀ (i : Nat) p, i < j → P[i]? = some p → eB S p ≠ b) ?_ 0 _ _ rfl ⟨rfl, Nat.zero_le _, fun i p h => by omega⟩
  rintro j N X ⟨rfl, hj, hne⟩ hX
  by_cases hlt : j < P.length
  · have hPj : P[j]? = some P[j] := List.getElem?_eq_getElem hlt
    obtain ⟨x, x1, x2, -⟩ := gr3 j _ hPj
    obtain ⟨pr, n, rfl, hn0, hnl, hor, _⟩ := gr1.sl (by rintro rfl; simp at x1)
    rw [Nat.mul_one] at hnl
    simp -implicitDefEqProofs (disch := (first | omega | (simp only [lenB, lowB_len, numB_len, nsumB_len] <;> omega) | fail)) only [admQ, lenB, lowB_len, numB_len, nsumB_len, aFill, AK.cls, implies_true, if_true, if_false, seval, -List.reduceReplicate, gr1.len, dec_t (show (j : Int) < rc.length by omega), rowOf_own hor, x1]
    have hxl : (eB S P[j]).length ≤ 1024 := sup_len (.nm S []) _ _
    refine (ans_samebytes x2 hv3 (by omega)).mono ?_
    rintro _ N ⟨rfl, rfl⟩
    by_cases he : eB S P[j] = b
    · obtain ⟨e1, e2, e3⟩ := hfp.found (List.getElem_mem hlt)
      rw [he] at e1 e2 e3
      rw [e1] at hE
      rw [e2] at hg
      rw [e3] at hM
      subst hE hg
      have gf : flatOf geoC (P.map (·.2)) = flatOf (fun p : En => geoC p.2) P := by simp [flatOf, List.flatMap_map]
      have sf : flatOf bys (P.map fun p => nsumB T (eB S p)) = flatOf (fun p : En => bys (nsumB T (eB S p))) P := by simp [flatOf, List.flatMap_map]
      have gL : (flatOf (fun p : En => geoC p.2) P).length = P.length * 3 := flatOf_length (fun p => geoC_len p.2) P
      have sL : (flatOf (fun p : En => bys (nsumB T (eB S p))) P).length = P.length * 32 := flatOf_length (fun p => by simp [nsumB_len]) P
      have gt := flatOf_get (f := fun p : En => geoC p.2) (fun p => geoC_len p.2) P j hlt
      have st := flatOf_get (f := fun p : En => bys (nsumB T (eB S p))) (k := 32) (fun p => by simp [nsumB_len]) P j hlt
      simp only [he, hM] at st
      rw [gf] at gg
      rw [sf] at gs
      obtain ⟨pg, ng, rfl, hg0, hgl, hog, _⟩ := gg.sl (fun h => by rw [h] at gL; simp at gL; omega)
      obtain ⟨ps, ns, rfl, hs0, hsl, hos, _⟩ := gs.sl (fun h => by rw [h] at sL; simp at sL; omega)
      have gt' : List.take 3 (List.drop (j * 3) (flatOf (fun p : En => geoC p.2) P)) = [.int .i64 P[j].2.s, .int .i64 P[j].2.n, .int .i64 P[j].2.b] := gt
      simp -implicitDefEqProofs (disch := (first | omega | (simp only [lenB, lowB_len, numB_len, nsumB_len] <;> omega) | fail)) only [admQ, lenB, lowB_len, numB_len, nsumB_len, aFill, AK.cls, implies_true, if_true, if_false, seval, -List.reduceReplicate, beq_iff_eq.mpr he, rowOf_own g3, rowOf_own s3, f1, f3, rowOf_own hog, rowOf_own hos, gL, sL, gt', st, aEq_bys SM SM hSMl hSMl, beq_self_eq_true]
      refine (ans_suknown N).mono ?_
      rintro _ m3 ⟨rfl, k4⟩
      simp -implicitDefEqProofs (disch := (first | omega | (simp only [lenB, lowB_len, numB_len, nsumB_len] <;> omega) | fail)) only [admQ, lenB, lowB_len, numB_len, nsumB_len, aFill, AK.cls, implies_true, if_true, if_false, seval, -List.reduceReplicate, rowOf_own (k4.own g3 (by simp)), rowOf_own (k4.own s3 (by simp)), f1, f3, rowOf_own (k4.own hog (by simp)), rowOf_own (k4.own hos (by simp)), gL, sL, gt', st]
      exact K3.trans k4
    · simp -implicitDefEqProofs (disch := (first | omega | (simp only [lenB, lowB_len, numB_len, nsumB_len] <;> omega) | fail)) only [admQ, lenB, lowB_len, numB_len, nsumB_len, aFill, AK.cls, implies_true, if_true, if_false, seval, -List.reduceReplicate, beq_eq_false_iff_ne.mpr he]
      refine hX (j + 1) _ _ rfl (by omega) ⟨rfl, by omega, fun i p hi hp => ?_⟩
      by_cases hij : i = j
      · subst hij
        rw [hPj] at hp; cases hp; exact he
      · exact hne i p (by omega) hp
  · simp -implicitDefEqProofs (disch := (first | omega | (simp only [lenB, lowB_len, numB_len, nsumB_len] <;> omega) | fail)) only [admQ, lenB, lowB_len, numB_len, nsumB_len, aFill, AK.cls, implies_true, if_true, if_false, seval, -List.reduceReplicate, gr1.len, dec_f (show ¬ (j : Int) < rc.length by omega)]
    obtain ⟨e1, e2, e3⟩ := hfp.refused (b := b) (by omega) (fun p hp => by
      obtain ⟨i, hi, rfl⟩ := List.mem_iff_getElem.mp hp
      exact hne i _ (by omega) (List.getElem?_eq_getElem hi))
    rw [e1] at hE
    rw [e2] at hg
    rw [e3] at hM
    subst hE hg hM
    have g3' : own N m2.length = some [.int .i64 0, .int .i64 0, .int .i64 0] := g3
    simp -implicitDefEqProofs (disch := (first | omega | (simp only [lenB, lowB_len, numB_len, nsumB_len] <;> omega) | fail)) only [admQ, lenB, lowB_len, numB_len, nsumB_len, aFill, AK.cls, implies_true, if_true, if_false, seval, -List.reduceReplicate, beq_self_eq_true, rowOf_own g3', rowOf_own s3, f1, f3, aEq_bys _ _ hSMl hSMl]
    refine (known _ K3).mono ?_
    rintro _ m3 ⟨rfl, k3⟩
    simp -implicitDefEqProofs (disch := (first | omega | (simp only [lenB, lowB_len, numB_len, nsumB_len] <;> omega) | fail)) only [admQ, lenB, lowB_len, numB_len, nsumB_len, aFill, AK.cls, implies_true, if_true, if_false, seval, -List.reduceReplicate]
    exact k3
theorem ans_SuperFound {m : Mem} {l ev y : AV} {L : List Geo} {E : List Int} {b : List B8} {back : Int} (hl : RdGeos m l L) (hE : RdInts m ev E) (hy : RdB m y b) :
    Ans Try.prog 4 [l, ev, y, .int .i64 back] m fun r m' => r = .bool true ∧ Kept [] m m' := by
  refine ans_ret mixed ok4 ?_
  have known : ∀ M, Kept [] m M → Ans Try.prog 6 [] M fun r m' => r = .bool true ∧ Kept [] m m' := fun M hk => (ans_suknown M).mono fun r m' ⟨h1, h2⟩ => ⟨h1, hk.trans h2⟩
  simp -implicitDefEqProofs (disch := (first | omega | (simp only [lenB, lowB_len, numB_len, nsumB_len] <;> omega) | fail)) only [admQ, lenB, lowB_len, numB_len, nsumB_len, aFill, AK.cls, implies_true, if_true, if_false, seval, -List.reduceReplicate, q4, d4_1, d4_2, d4_3, d4_4, d4_7, d4_8, d4_9, d4_10, d4_13, d4_14, d4_15, d4_16, d4_17, d4_18, r4]
  refine Ans.mono (ans_dknew 5 (by omega) m) ?_
  rintro _ m1 ⟨k1, xd, Wd, Rd, rfl, hD, hRd⟩
  simp -implicitDefEqProofs (disch := (first | omega | (simp only [lenB, lowB_len, numB_len, nsumB_len] <;> omega) | fail)) only [admQ, lenB, lowB_len, numB_len, nsumB_len, aFill, AK.cls, implies_true, if_true, if_false, seval, -List.reduceReplicate]
  refine (ans_nnew m1).mono ?_
  rintro _ m2 ⟨xc, Wc, rfl, k2, hN, hWc⟩
  have hV : Vo m2 xd xc (Rd ++ Wc) (dk0 5) (.nm [] []) := ⟨Wd, Rd, Wc, Wc, hD.kept0 k2, ⟨hN, rfl⟩, fun q h1 h2 => by have := hD.lt q h1; have := hWc q h2; omega, rfl⟩
  have hB : ∀ q ∈ Rd ++ Wc, m.length ≤ q := fun q hq => by
    have := k1.len
    rcases List.mem_append.mp hq with h | h
    · exact hRd q h
    · have := hWc q h; omega
  have K2 := k1.trans k2
  generalize hBe : Rd ++ Wc = B at hV hB
  by_cases h1 : (b.length : Int) > 2048
  · simp -implicitDefEqProofs (disch := (first | omega | (simp only [lenB, lowB_len, numB_len, nsumB_len] <;> omega) | fail)) only [admQ, lenB, lowB_len, numB_len, nsumB_len, aFill, AK.cls, implies_true, if_true, if_false, seval, -List.reduceReplicate, (hy.kept0 K2).len, dec_t h1]
    refine (known _ K2).mono ?_
    rintro _ m3 ⟨rfl, k3⟩
    simp -implicitDefEqProofs (disch := (first | omega | (simp only [lenB, lowB_len, numB_len, nsumB_len] <;> omega) | fail)) only [admQ, lenB, lowB_len, numB_len, nsumB_len, aFill, AK.cls, implies_true, if_true, if_false, seval, -List.reduceReplicate]
    exact k3
  simp -implicitDefEqProofs (disch := (first | omega | (simp only [lenB, lowB_len, numB_len, nsumB_len] <;> omega) | fail)) only [admQ, lenB, lowB_len, numB_len, nsumB_len, aFill, AK.cls, implies_true, if_true, if_false, seval, -List.reduceReplicate, (hy.kept0 K2).len, dec_f h1]
  refine LoopW.on (fun t : Nat × AV × AV × AV => [(0, l), (1, ev), (2, y), (3, .int .i64 back), (9, .ptr xd 0), (11, .ptr xc 0), (12, t.2.1), (13, t.2.2.1), (14, t.2.2.2), (15, .int .i64 t.1)]) (fun t => L.length - t.1)
    (fun t N => ∃ B P S T d, FJ m L xd xc t.1 B P S T d t.2.1 t.2.2.1 t.2.2.2 N) ?_ (0, .nils, .nils, .nils) _ _ rfl ⟨B, [], [], [], dk0 5, ⟨Nat.zero_le _, Nat.zero_le _⟩, K2, hV, hB, calm0 5 (by omega), by simp [show peekD (dk0 5) 0 = [] from rfl], FP.nil, by simp, .nil _ _ _⟩
  clear hBe hB hV K2 hWc hN k2 m2 hRd hD k1 m1
  rintro ⟨i, rv, gv, sv⟩ N X ⟨B, P, S, T, d, hJ⟩ hX
  simp only at hJ
  by_cases hlt : i < L.length ∧ i < 20
  · obtain ⟨hlt, hlt2⟩ := hlt
    have hlen := hl.len
    simp -implicitDefEqProofs (disch := (first | omega | (simp only [lenB, lowB_len, numB_len, nsumB_len] <;> omega) | fail)) only [admQ, lenB, lowB_len, numB_len, nsumB_len, aFill, AK.cls, implies_true, if_true, if_false, seval, -List.reduceReplicate, hl.len, dec_t (show (i : Int) < L.length by omega), dec_t (show (i : Int) < 20 by omega)]
    refine wp_join2 [0, 1, 2, 3, 9, 11, 12, 13, 14, 15, 16] (fun e : Int => [(0, l), (1, ev), (2, y), (3, .int .i64 back), (9, .ptr xd 0), (11, .ptr xc 0), (12, rv), (13, gv), (14, sv), (15, .int .i64 i), (16, .int .i64 e)]) (fun _ M => M = N) rfl ?_ ?_
    · by_cases hej : i < E.length
      · have hel := hE.len
        rcases hE with ⟨_, rfl⟩ | ⟨pe, cap, rfl, hpe⟩
        · simp at hej
        have r0 := hJ.kept.row hpe (by simp)
        have e0 : (E.map (AV.int .i64))[i]? = some (.int .i64 E[i]) := by rw [List.getElem?_map, List.getElem?_eq_getElem hej]; rfl
        simp -implicitDefEqProofs (disch := (first | omega | (simp only [lenB, lowB_len, numB_len, nsumB_len] <;> omega) | fail)) only [admQ, lenB, lowB_len, numB_len, nsumB_len, aFill, AK.cls, implies_true, if_true, if_false, seval, -List.reduceReplicate, d4_5, dec_t (show (i : Int) < E.length by omega), r0, e0]
        exact ⟨E[i], rfl, rfl⟩
      · simp -implicitDefEqProofs (disch := (first | omega | (simp only [lenB, lowB_len, numB_len, nsumB_len] <;> omega) | fail)) only [admQ, lenB, lowB_len, numB_len, nsumB_len, aFill, AK.cls, implies_true, if_true, if_false, seval, -List.reduceReplicate, d4_5, hE.len, dec_f (show ¬ (i : Int) < E.length by omega)]
        exact ⟨i, rfl, rfl⟩
    · rintro e M rfl
      obtain ⟨⟨hi, hi2⟩, hkN, hV, low, hcalm, hpk, hfp, ⟨sz1, sz2, sz3⟩, hkp⟩ := hJ
      rcases hl with ⟨_, rfl⟩ | ⟨pg, capg, rfl, hpg⟩
      · simp at hlt
      have r0 := hkN.row hpg (by simp)
      have t3 := flatOf_get geoC_len L i hlt
      have hfl := flatOf_length geoC_len L
      generalize hg : L[i] = g at t3
      simp -implicitDefEqProofs (disch := (first | omega | (simp only [lenB, lowB_len, numB_len, nsumB_len] <;> omega) | fail)) only [admQ, lenB, lowB_len, numB_len, nsumB_len, aFill, AK.cls, implies_true, if_true, if_false, seval, -List.reduceReplicate, d4_6, r0, hfl, t3]
      have hbr : ∀ q ∈ B, m.length ≤ q := low
      have hz : (bys (List.replicate 32 0#8)).length = 32 := by simp
      refine (ans_suwrite hV e g (show S.length ≤ 999 by omega) (show T.length ≤ 1000 by omega)).mono ?_
      rintro _ m3 ⟨rfl, k3, B3, hV3, hB3⟩
      have hM := hkN.len
      have low3 : ∀ q ∈ B3, m.length ≤ q := fun q hq => (hB3 q hq).elim (low q) (fun h => by omega)
      have K3 : Kept [] m m3 := hkN.upon k3 low
      have hkp3 := hkp.kept k3 hB3
      have hrvl : ∀ q ∈ blkOf rv, q < M.length := by obtain ⟨rc0, gr0, _⟩ := hkp.rows; exact gr0.lt
      have hgvl := hkp.geos.lt
      have hsvl := hkp.sums.lt
      have l3 := k3.len
      obtain ⟨f1, f2, f3⟩ := sm_facts (suM_len d (.nm S T) e g)
      by_cases hok : suOk e g
      · have hE0 := (su_calm hcalm (.nm S T) e g).1.mpr hok
        obtain ⟨b1, b2, b3, b4⟩ := su_back hcalm (S := S) (T := T) hok
        have hcm := (su_calm hcalm (.nm S T) e g).2
        rw [eB_any S T (e, g)] at b2 b3 b4
        obtain ⟨r1, r2, r3, r4, r5⟩ := sr_back (S := S) (S2 := putS S (suS e g)) (T := []) (T2 := addN (eB S (e, g)) T) hok (by have := putC_ok (c := .nm S []) hok.2; rw [putC_nm] at this; exact this)
        rw [eB_any S [] (e, g)] at r1 r2 r3 r4 r5
        rw [(addN_again _ _).1] at r4
        have hsm : suM d (.nm S T) e g = nsumB (addN (eB S (e, g)) T) (eB S (e, g)) := by rw [b4, nsumB, nsumB, (addN_again _ _).2]
        rw [b3] at hV3
        have hbl : (eB S (e, g)).length ≤ 1024 := sup_len (.nm S []) e g
        have hsl := putS_len S (suS e g)
        have htl := addN_len (eB S (e, g)) T
        have hfp' := hfp.add hok
        have hkp3' := hkp3.more hfp e g
        rw [hE0, hsm]
        rw [hsm] at f1 f2 f3
        have hSMl : (nsumB (addN (eB S (e, g)) T) (eB S (e, g))).length = 32 := nsumB_len _ _
        generalize hSM : nsumB (addN (eB S (e, g)) T) (eB S (e, g)) = SM at *
        generalize suD d (.nm S T) e g = d3 at *
        simp -implicitDefEqProofs (disch := (first | omega | (simp only [lenB, lowB_len, numB_len, nsumB_len] <;> omega) | fail)) only [admQ, lenB, lowB_len, numB_len, nsumB_len, aFill, AK.cls, implies_true, if_true, if_false, seval, -List.reduceReplicate, hz, f1, f2]
        generalize hE3 : m3 ++ _ = E3
        have kE3 : Kept [] m3 E3 := by rw [← hE3]; exact .app _ _ _
        have s3 : own E3 m3.length = some (bys SM) := by rw [← hE3, own_app_at0]; rfl
        clear hE3
        have hV3' := hV3.kept0 kE3
        have hB3l := hV3.lt
        simp -implicitDefEqProofs (disch := (first | omega | (simp only [lenB, lowB_len, numB_len, nsumB_len] <;> omega) | fail)) only [admQ, lenB, lowB_len, numB_len, nsumB_len, aFill, AK.cls, implies_true, if_true, if_false, seval, -List.reduceReplicate, d4_7, d4_8]
        refine (ans_voread hV3' (by rw [b2]; omega)).mono ?_
        rintro _ m4 ⟨k4, hV4, v4, rfl, sv4⟩
        rw [b2] at sv4
        have s4 := k4.own s3 (fun h => by have := hB3l _ h; omega)
        simp -implicitDefEqProofs (disch := (first | omega | (simp only [lenB, lowB_len, numB_len, nsumB_len] <;> omega) | fail)) only [admQ, lenB, lowB_len, numB_len, nsumB_len, aFill, AK.cls, implies_true, if_true, if_false, seval, -List.reduceReplicate]
        have cT : ∀ (S : List Sd) (T : List (List B8)) (z : Nat), AV.iface 39 (.ptr z 0) = .iface (cyT (.nm S T)) (.ptr z 0) := fun _ _ _ => rfl
        rw [cT (putS S (suS e g)) (addN (eB S (e, g)) T)]
        have hpk4 : peekD (readD d3 0) 0 = eB S (e, g) := b2
        refine (ans_suread hV4 (show (putS S (suS e g)).length ≤ 1000 by omega) (show (addN (eB S (e, g)) T).length ≤ 1000 by omega) (by rw [hpk4]; omega)).mono ?_
        rintro _ m5 ⟨rfl, k5, hV5⟩
        rw [hpk4] at hV5 ⊢
        rw [r4] at hV5
        rw [r2, r3, r5]
        have s5 := k5.own s4 (fun h => by have := hB3l _ h; omega)
        unfold geoV
        have hsg : splice [AV.int .i64 0, .int .i64 0, .int .i64 0] 0 (geoC g) = geoC g := rfl
        simp -implicitDefEqProofs (disch := (first | omega | (simp only [lenB, lowB_len, numB_len, nsumB_len] <;> omega) | fail)) only [admQ, lenB, lowB_len, numB_len, nsumB_len, aFill, AK.cls, implies_true, if_true, if_false, seval, -List.reduceReplicate, hz, f1, f2, geoC_len g, hsg]
        have k5' := Kept.app [] m5 [.row (geoC g) false, .row (bys SM) false]
        have g6 : own (m5 ++ [.row (geoC g) false, .row (bys SM) false]) m5.length = some (geoC g) := by rw [own_app_at0]; rfl
        have u6 : own (m5 ++ [.row (geoC g) false, .row (bys SM) false]) (m5.length + 1) = some (bys SM) := by rw [own_app_at]; rfl
        generalize m5 ++ [.row (geoC g) false, .row (bys SM) false] = E5 at *
        have s6 := k5'.own s5 (by simp)
        have kB : Kept B3 m3 E5 := ((kE3.any.trans k4).trans k5).trans k5'.any
        have hV6 := hV5.kept0 k5'
        have hkp6 := hkp3'.kept kB (fun q hq => .inl hq)
        have K6 : Kept [] m E5 := K3.upon kB low3
        have r6 := K6.row hpg (by simp)
        have t3u : List.take 3 (List.drop (i * 3) (flatOf geoC L)) = [.int .i64 g.s, .int .i64 g.n, .int .i64 g.b] := t3
        have g6u : own E5 m5.length = some [.int .i64 g.s, .int .i64 g.n, .int .i64 g.b] := g6
        simp -implicitDefEqProofs (disch := (first | omega | (simp only [lenB, lowB_len, numB_len, nsumB_len] <;> omega) | fail)) only [admQ, lenB, lowB_len, numB_len, nsumB_len, aFill, AK.cls, implies_true, if_true, if_false, seval, -List.reduceReplicate, d4_9, rowOf_own g6u, r6, hfl, t3u, rowOf_own u6, rowOf_own s6, f1, f3, aEq_bys SM SM hSMl hSMl, beq_self_eq_true, Bool.not_true]
        obtain ⟨⟨rc, gr1, gr2, gr3⟩, gg, gs, ap1, ap2, ap3⟩ := hkp6
        have hmE := K6.len
        obtain ⟨rv2, m7, e7, gr7, k7, a7, n7⟩ := GrA.push5 (bytes := 24) gr1 (by omega) (l := [v4]) rfl (by omega) hmE
        simp -implicitDefEqProofs (disch := (first | omega | (simp only [lenB, lowB_len, numB_len, nsumB_len] <;> omega) | fail)) only [admQ, lenB, lowB_len, numB_len, nsumB_len, aFill, AK.cls, implies_true, if_true, if_false, seval, -List.reduceReplicate, d4_10, (rd_one sv4.rd).1, (rd_one sv4.rd).2]
        refine someW_eq e7 ?_
        have lE3 := kE3.len
        have l4 := k4.len
        have l5 := k5.len
        have l56 := k5'.len
        have l7 := k7.len
        have g7 := k7.own g6u (fun h => by have := hrvl _ h; omega)
        have s7 := k7.own s6 (fun h => by have := hrvl _ h; omega)
        have gg7 := gg.kept k7 (fun q hq h => (ap1 q h).2.1 hq)
        have gs7 := gs.kept k7 (fun q hq h => (ap1 q h).2.2 hq)
        have hV7 := hV6.kept k7 (fun q hq h => (ap1 q h).1 hq)
        have hsz3 : (flatOf geoC (P.map (·.2))).length = P.length * 3 := by rw [flatOf_length geoC_len, List.length_map]
        have hsz32 : (flatOf bys (P.map fun p => nsumB (addN (eB S (e, g)) T) (eB (putS S (suS e g)) p))).length = P.length * 32 := by
          rw [flatOf, List.length_flatMap, List.map_map]
          have : (P.map ((fun a => (bys a).length) ∘ fun p => nsumB (addN (eB S (e, g)) T) (eB (putS S (suS e g)) p))) = P.map fun _ => 32 := List.map_congr_left fun p _ => by simp [nsumB_len]
          rw [this, List.map_const', List.sum_replicate_nat]
        obtain ⟨gv2, m8, e8, gg8, k8, a8, n8⟩ := GrA.push5 (bytes := 24) gg7 (by omega) (l := geoC g) rfl (by omega) (by omega)
        simp -implicitDefEqProofs (disch := (first | omega | (simp only [lenB, lowB_len, numB_len, nsumB_len] <;> omega) | fail)) only [admQ, lenB, lowB_len, numB_len, nsumB_len, aFill, AK.cls, implies_true, if_true, if_false, seval, -List.reduceReplicate, rowOf_own g7, geoC_len g, hsg]
        refine someW_eq e8 ?_
        have l8 := k8.len
        have s8 := k8.own s7 (fun h => by have := hgvl _ h; omega)
        have gs8 := gs7.kept k8 (fun q hq h => (ap2 q h).2 hq)
        have hV8 := hV7.kept k8 (fun q hq h => (ap2 q h).1 hq)
        obtain ⟨sv2, m9, e9, gs9, k9, a9, n9⟩ := GrA.push5 (bytes := 32) gs8 (by omega) (l := bys SM) f1 (by omega) (by omega)
        simp -implicitDefEqProofs (disch := (first | omega | (simp only [lenB, lowB_len, numB_len, nsumB_len] <;> omega) | fail)) only [admQ, lenB, lowB_len, numB_len, nsumB_len, aFill, AK.cls, implies_true, if_true, if_false, seval, -List.reduceReplicate, rowOf_own s8, f1, f3]
        refine someW_eq e9 ?_
        have l9 := k9.len
        have gr9 := (gr7.kept k8 (fun q hq h => by have := n7 q hq; have := hgvl q h; omega)).kept k9 (fun q hq h => by have := n7 q hq; have := hsvl q h; omega)
        have gg9 := gg8.kept k9 (fun q hq h => by have := n8 q hq; have := hsvl q h; omega)
        have hV9 := hV8.kept k9 (fun q hq h => ap3 q h hq)
        have K9 : Kept [] m m9 := a9 _ _ (a8 _ _ (a7 _ _ K6 (Nat.le_refl _)) (Nat.le_refl _)) (Nat.le_refl _)
        have hv4 : ∀ q ∈ blkOf v4, m3.length ≤ q ∧ q < m4.length := fun q hq => ⟨by have := sv4.low q hq; omega, sv4.rd.blk_lt q hq⟩
        have rv4 : RdB m9 v4 (eB S (e, g)) := rdb_ap (rdb_ap (rdb_ap (rdb_ap (rdb_ap sv4.rd k5 (fun q hq h => by have := hv4 q hq; have := hB3l q h; omega)) k5' (by simp)) k7 (fun q hq h => by have := hv4 q hq; have := hrvl q h; omega)) k8 (fun q hq h => by have := hv4 q hq; have := hgvl q h; omega)) k9 (fun q hq h => by have := hv4 q hq; have := hsvl q h; omega)
        have B2 : ∀ q ∈ blkOf rv2, E5.length < q ∧ q < m7.length := fun q hq => ⟨n7 q hq, gr7.lt q hq⟩
        have G2 : ∀ q ∈ blkOf gv2, m7.length < q ∧ q < m8.length := fun q hq => ⟨n8 q hq, gg8.lt q hq⟩
        have S2 : ∀ q ∈ blkOf sv2, m8.length < q := n9
        have old : ∀ (j : Nat) p, P[j]? = some p → ∃ x, rc[j]? = some x ∧ RdB m9 x (eB (putS S (suS e g)) p) ∧ ∀ q ∈ blkOf x, q < E5.length ∧ q ∉ B3 := fun j p hp => by
          obtain ⟨x, x1, x2, x3⟩ := gr3 j p hp
          exact ⟨x, x1, rdb_ap (rdb_ap (rdb_ap x2 k7 (fun q hq => (x3 q hq).2.1)) k8 (fun q hq => (x3 q hq).2.2.1)) k9 (fun q hq => (x3 q hq).2.2.2), fun q hq => ⟨x2.blk_lt q hq, (x3 q hq).1⟩⟩
        have hkp9 : Kp m B3 (P ++ [(e, g)]) (putS S (suS e g)) (addN (eB S (e, g)) T) rv2 gv2 sv2 m9 := by
          refine ⟨⟨rc ++ [v4], gr9, by simp [gr2], fun j p hp => ?_⟩, by rw [flatOf_map_snoc]; exact gg9, by rw [flatOf_map_snoc, eB_self hok, hSM]; exact gs9, fun q hq => ⟨fun h => ?_, fun h => ?_, fun h => ?_⟩, fun q hq => ⟨fun h => ?_, fun h => ?_⟩, fun q hq h => ?_⟩
          · rw [List.getElem?_append] at hp
            split at hp
            · rename_i hj
              obtain ⟨x, x1, x2, x3⟩ := old j p hp
              refine ⟨x, by rw [List.getElem?_append_left (by omega)]; exact x1, x2, fun q hq => ⟨(x3 q hq).2, fun h => ?_, fun h => ?_, fun h => ?_⟩⟩
              · have := x3 q hq; have := B2 q h; omega
              · have := x3 q hq; have := G2 q h; omega
              · have := x3 q hq; have := S2 q h; omega
            · rename_i hj
              have hj0 : j - P.length = 0 := by
                rcases Nat.eq_zero_or_pos (j - P.length) with h | h
                · exact h
                · rw [List.getElem?_eq_none (by simp; omega)] at hp; cases hp
              rw [hj0] at hp
              simp only [List.getElem?_cons_zero, Option.some.injEq] at hp
              subst hp
              refine ⟨v4, by rw [List.getElem?_append_right (by omega), gr2, hj0]; rfl, by rw [eB_self hok]; exact rv4, fun q hq => ⟨fun h => ?_, fun h => ?_, fun h => ?_, fun h => ?_⟩⟩
              · have := hv4 q hq; have := hB3l q h; omega
              · have := hv4 q hq; have := B2 q h; omega
              · have := hv4 q hq; have := G2 q h; omega
              · have := hv4 q hq; have := S2 q h; omega
          · have := B2 q hq; have := hB3l q h; omega
          · have := B2 q hq; have := G2 q h; omega
          · have := B2 q hq; have := S2 q h; omega
          · have := G2 q hq; have := hB3l q h; omega
          · have := G2 q hq; have := S2 q h; omega
          · have := S2 q hq; have := hB3l q h; omega
        simp -implicitDefEqProofs (disch := (first | omega | (simp only [lenB, lowB_len, numB_len, nsumB_len] <;> omega) | fail)) only [admQ, lenB, lowB_len, numB_len, nsumB_len, aFill, AK.cls, implies_true, if_true, if_false, seval, -List.reduceReplicate]
        refine hX (i + 1, rv2, gv2, sv2) _ _ rfl (by simp only; omega) ⟨B3, P ++ [(e, g)], putS S (suS e g), addN (eB S (e, g)) T, readD (readD d3 0) 0, ⟨by simp only; omega, by simp only; omega⟩, K9, hV9, low3, hcm, by rw [show peekD (readD (readD d3 0) 0) 0 = eB S (e, g) from b2]; omega, hfp', ⟨by simp only [List.length_append, List.length_singleton]; omega, by simp only; omega, by simp only; omega⟩, hkp9⟩
      · have hE0 : ¬ suE d (.nm S T) e g = 0 := fun h => hok ((su_calm hcalm _ e g).1.mp h)
        obtain ⟨n1, n2⟩ := su_no hcalm (.nm S T) hok
        rw [n1, n2] at hV3
        simp -implicitDefEqProofs (disch := (first | omega | (simp only [lenB, lowB_len, numB_len, nsumB_len] <;> omega) | fail)) only [admQ, lenB, lowB_len, numB_len, nsumB_len, aFill, AK.cls, implies_true, if_true, if_false, seval, -List.reduceReplicate, hz, f1, f2, d4_7, d4_8, beq_eq_false_iff_ne.mpr hE0, Bool.not_false]
        refine hX (i + 1, rv, gv, sv) _ _ rfl (by simp only; omega) ⟨B3, P, S, T, d, ⟨by simp only; omega, by simp only; omega⟩, K3.more_app _, hV3.kept0 (.app _ _ _), low3, hcalm, hpk, hfp, ⟨by simp only; omega, by simp only; omega, by simp only; omega⟩, hkp3.kept0 (.app _ _ _)⟩
  · obtain ⟨⟨hi, hi2⟩, hkN, hV, low, hcalm, hpk, hfp, ⟨sz1, sz2, sz3⟩, hkp⟩ := hJ
    have fin1 : (i : Int) < L.length → ¬ (i : Int) < 20 := by omega
    have hNm := hkN.len
    have hVl := hV.lt
    by_cases e1 : (i : Int) < L.length
    case' neg => simp -implicitDefEqProofs (disch := (first | omega | (simp only [lenB, lowB_len, numB_len, nsumB_len] <;> omega) | fail)) only [admQ, lenB, lowB_len, numB_len, nsumB_len, aFill, AK.cls, implies_true, if_true, if_false, seval, -List.reduceReplicate, hl.len, dec_f e1]
    case' pos => simp -implicitDefEqProofs (disch := (first | omega | (simp only [lenB, lowB_len, numB_len, nsumB_len] <;> omega) | fail)) only [admQ, lenB, lowB_len, numB_len, nsumB_len, aFill, AK.cls, implies_true, if_true, if_false, seval, -List.reduceReplicate, hl.len, dec_t e1, dec_f (fin1 e1)]
    all_goals
      clear fin1 e1
      have hb1 : b.length ≤ 2048 := by omega
      refine (ans_copybytes2 (hy.kept0 hkN) (by omega)).mono ?_
      rintro v0 M0 ⟨kM0, gv0, bz⟩
      have hlr := hkp.rows
      obtain ⟨rc, gr1, gr2, gr3⟩ := hkp.rows
      have grM := gr1.kept0 kM0
      have hlen := grM.len
      simp -implicitDefEqProofs (disch := (first | omega | (simp only [lenB, lowB_len, numB_len, nsumB_len] <;> omega) | fail)) only [admQ, lenB, lowB_len, numB_len, nsumB_len, aFill, AK.cls, implies_true, if_true, if_false, seval, -List.reduceReplicate]
      refine wp_join2 [9, 11, 12, 13, 14, 24] (fun v : AV => [(9, .ptr xd 0), (11, .ptr xc 0), (12, rv), (13, gv), (14, sv), (24, v)]) (fun v M => Kept [] N M ∧ ∃ b', RdB M v b' ∧ b'.length ≤ 2048 ∧ ∀ q ∈ blkOf v, q ∉ B) rfl ?_ ?_
      · have cp : Kept [] N M0 ∧ ∃ b', RdB M0 v0 b' ∧ b'.length ≤ 2048 ∧ ∀ q ∈ blkOf v0, q ∉ B := ⟨kM0, b, gv0.rd, hb1, fun q hq h => by have := hVl q h; have := bz q hq; omega⟩
        by_cases p1 : (rc.length : Int) > 0
        · by_cases p2 : back.tmod 2 = 0
          · obtain ⟨pr, n, rfl, hn0, hnl, hor, _⟩ := grM.sl (by rintro rfl; simp at p1)
            rw [Nat.mul_one] at hnl
            simp -implicitDefEqProofs (disch := (first | omega | (simp only [lenB, lowB_len, numB_len, nsumB_len] <;> omega) | fail)) only [admQ, lenB, lowB_len, numB_len, nsumB_len, aFill, AK.cls, implies_true, if_true, if_false, seval, -List.reduceReplicate, d4_11, hlen, dec_t p1, beq_iff_eq.mpr p2]
            refine (ans_pick _ rc.length (by omega) (by omega) _).mono ?_
            rintro _ M1 ⟨rfl, rfl⟩
            generalize hj0 : pk _ rc.length = j
            have hj : j < rc.length := hj0 ▸ pk_lt _ (by omega)
            clear hj0
            obtain ⟨x, x1, x2, x3⟩ := gr3 j _ (List.getElem?_eq_getElem (show j < P.length by omega))
            simp -implicitDefEqProofs (disch := (first | omega | (simp only [lenB, lowB_len, numB_len, nsumB_len] <;> omega) | fail)) only [admQ, lenB, lowB_len, numB_len, nsumB_len, aFill, AK.cls, implies_true, if_true, if_false, seval, -List.reduceReplicate, rowOf_own hor, x1]
            have hxl : (eB S P[j]).length ≤ 1024 := sup_len (.nm S []) _ _
            exact ⟨x, rfl, kM0, _, x2.kept0 kM0, by omega, fun q hq => (x3 q hq).1⟩
          · simp -implicitDefEqProofs (disch := (first | omega | (simp only [lenB, lowB_len, numB_len, nsumB_len] <;> omega) | fail)) only [admQ, lenB, lowB_len, numB_len, nsumB_len, aFill, AK.cls, implies_true, if_true, if_false, seval, -List.reduceReplicate, d4_11, hlen, dec_t p1, beq_eq_false_iff_ne.mpr p2]
            exact ⟨v0, rfl, cp⟩
        · simp -implicitDefEqProofs (disch := (first | omega | (simp only [lenB, lowB_len, numB_len, nsumB_len] <;> omega) | fail)) only [admQ, lenB, lowB_len, numB_len, nsumB_len, aFill, AK.cls, implies_true, if_true, if_false, seval, -List.reduceReplicate, d4_11, hlen, dec_f p1]
          exact ⟨v0, rfl, cp⟩
      · rintro v M ⟨kM, b', hv, hvl, hvB⟩
        exact foundTail (hkN.trans kM) (hV.kept0 kM) low hcalm hfp (by omega) (by omega) (hkp.kept0 kM) hv hvl hvB
end Go.Proofs.Ytoegmnnecanhfaa
end
section
/- Superblocks: the chapter's examples. -/
namespace Go.Proofs.Ytoegmnnecanhfaa
open Go Go.Adm
set_option linter.unusedSimpArgs false
set_option linter.unusedVariables false
set_option maxRecDepth 100000
theorem ans_SuperKnown (m : Mem) : Ans Try.prog 5 [] m fun r m' => r = .bool true ∧ Kept [] m m' := by
  refine ans_ret mixed ok5 ?_
  have hok : okG smallG := by decide
  have hE : errG smallG = 0 := (errG_ok _).mpr hok
  have hno : errG ⟨1, 1, 1⟩ = 15 := by decide
  have hpl : (putG smallG).length = 24 := by rw [putG, if_pos hok, geoB_len]
  simp -implicitDefEqProofs (disch := (first | omega | (simp only [lenB, lowB_len, numB_len, nsumB_len] <;> omega) | fail)) only [admQ, lenB, lowB_len, numB_len, nsumB_len, aFill, AK.cls, implies_true, if_true, if_false, seval, -List.reduceReplicate, c5, r5]
  refine (ans_small m).mono ?_
  rintro _ m1 ⟨rfl, k1⟩
  simp -implicitDefEqProofs (disch := (first | omega | (simp only [lenB, lowB_len, numB_len, nsumB_len] <;> omega) | fail)) only [admQ, lenB, lowB_len, numB_len, nsumB_len, aFill, AK.cls, implies_true, if_true, if_false, seval, -List.reduceReplicate]
  refine (ans_suput smallG m1).mono ?_
  rintro _ m2 ⟨k2, w, rfl, rw2, bw2⟩
  simp -implicitDefEqProofs (disch := (first | omega | (simp only [lenB, lowB_len, numB_len, nsumB_len] <;> omega) | fail)) only [admQ, lenB, lowB_len, numB_len, nsumB_len, aFill, AK.cls, implies_true, if_true, if_false, seval, -List.reduceReplicate]
  have gv1 : AV.agg [AV.int .i64 1, .int .i64 1, .int .i64 1] = geoV ⟨1, 1, 1⟩ := rfl
  rw [gv1]
  refine (ans_suput ⟨1, 1, 1⟩ m2).mono ?_
  rintro _ m3 ⟨k3, w3, rfl, -, -⟩
  have w3 := rw2.kept0 k3
  obtain ⟨p, o, cap, sp, cc, rfl, hr3, hat3, hl3, hcap3, hs3, htk3⟩ := w3.cons (i := 0) (by omega)
  have hB24 : (putG smallG).length = 24 := hpl
  rw [hpl] at w3 hcap3
  have t23 := w3.take (k := 23) (by omega)
  have e23 : getGE ((putG smallG).take 23) = 4 := by rw [getGE, if_pos (by rw [List.length_take]; omega)]
  rw [← hpl] at w3
  rw [hpl]
  have ln3 := w3.len
  rw [hpl] at ln3 w3
  simp -implicitDefEqProofs (disch := (first | omega | (simp only [lenB, lowB_len, numB_len, nsumB_len] <;> omega) | fail)) only [admQ, lenB, lowB_len, numB_len, nsumB_len, aFill, AK.cls, implies_true, if_true, if_false, seval, -List.reduceReplicate, hE, hno, ln3, beq_self_eq_true, Bool.not_true]
  refine (ans_suget t23 (by rw [List.length_take]; omega)).mono ?_
  rintro _ m4 ⟨k4, rfl⟩
  rw [e23]
  unfold geoV
  have hsg : ∀ g, splice [AV.int .i64 0, .int .i64 0, .int .i64 0] 0 (geoC g) = geoC g := fun _ => rfl
  simp -implicitDefEqProofs (disch := (first | omega | (simp only [lenB, lowB_len, numB_len, nsumB_len] <;> omega) | fail)) only [admQ, lenB, lowB_len, numB_len, nsumB_len, aFill, AK.cls, implies_true, if_true, if_false, seval, -List.reduceReplicate, geoC_len, hsg]
  generalize hM5 : m4 ++ _ = M5
  have k5 : Kept [] m4 M5 := by rw [← hM5]; exact .app _ _ _
  clear hM5
  have w5 := w3.kept0 (k4.trans k5)
  refine (ans_copybytes2 w5 (by omega)).mono ?_
  rintro v6 m6 ⟨k6, g6, b6⟩
  obtain ⟨x7, m7, e7, g7, k7, a7, n7⟩ := GrA.push5 (sz := 1) (bytes := 1) (l := [b8 0#8]) g6 Nat.one_pos rfl (by simp; omega) k6.len
  have e7' : aAppend 1 1 v6 (.sl m6.length 0 1 1 0) (m6 ++ [.row [.int .u8 0] false]) = some (x7, m7) := e7
  simp -implicitDefEqProofs (disch := (first | omega | (simp only [lenB, lowB_len, numB_len, nsumB_len] <;> omega) | fail)) only [admQ, lenB, lowB_len, numB_len, nsumB_len, aFill, AK.cls, implies_true, if_true, if_false, seval, -List.reduceReplicate]
  refine someW_eq e7' ?_
  have K57 : Kept [] M5 m7 := a7 _ _ k6 (Nat.le_refl _)
  have w7 := w5.kept0 K57
  have r7 : RdB m7 x7 (putG smallG ++ [0#8]) := by
    have : GrB M5.length m7 x7 (putG smallG ++ [0#8]) := by simpa [GrB, bys] using g7
    exact this.rd
  have e25 : getGE (putG smallG ++ [0#8]) = 3 := by rw [getGE, if_neg (by rw [List.length_append]; omega), if_pos (by rw [List.length_append, hB24]; decide)]
  simp -implicitDefEqProofs (disch := (first | omega | (simp only [lenB, lowB_len, numB_len, nsumB_len] <;> omega) | fail)) only [admQ, lenB, lowB_len, numB_len, nsumB_len, aFill, AK.cls, implies_true, if_true, if_false, seval, -List.reduceReplicate]
  refine (ans_suget r7 (by rw [List.length_append, hB24]; decide)).mono ?_
  rintro _ m8 ⟨k8, rfl⟩
  rw [e25]
  unfold geoV
  simp -implicitDefEqProofs (disch := (first | omega | (simp only [lenB, lowB_len, numB_len, nsumB_len] <;> omega) | fail)) only [admQ, lenB, lowB_len, numB_len, nsumB_len, aFill, AK.cls, implies_true, if_true, if_false, seval, -List.reduceReplicate, geoC_len, hsg]
  generalize hM9 : m8 ++ _ = M9
  have o9 : own M9 (m8.length + 1) = some (bys (List.replicate 24 0#8)) := by rw [← hM9, own_app_at]; rfl
  have z9 : RdB M9 (.sl (m8.length + 1) 0 24 24 0) (List.replicate 24 0#8) := by
    have h := RdB.row (m := M9) (l := List.replicate 24 0#8) 24 0 (rowOf_own o9) (by simp)
    rwa [List.length_replicate] at h
  have k9 : Kept [] m8 M9 := by rw [← hM9]; exact .app _ _ _
  clear hM9
  have e0 : getGE (List.replicate 24 0#8) = 15 := by decide
  refine (ans_suget z9 (by simp)).mono ?_
  rintro _ m10 ⟨k10, rfl⟩
  rw [e0]
  unfold geoV
  simp -implicitDefEqProofs (disch := (first | omega | (simp only [lenB, lowB_len, numB_len, nsumB_len] <;> omega) | fail)) only [admQ, lenB, lowB_len, numB_len, nsumB_len, aFill, AK.cls, implies_true, if_true, if_false, seval, -List.reduceReplicate, geoC_len, hsg]
  generalize hM11 : m10 ++ _ = M11
  have k11 : Kept [] m10 M11 := by rw [← hM11]; exact .app _ _ _
  clear hM11
  have w11 := w7.kept0 (k8.trans (k9.trans (k10.trans k11)))
  refine (ans_suget w11 (by omega)).mono ?_
  rintro _ m12 ⟨k12, rfl⟩
  rw [(get_putG hok).1, (get_putG hok).2]
  unfold geoV
  have hsm : geoC smallG = [.int .i64 18, .int .i64 32, .int .i64 4] := rfl
  rw [hsm]
  simp -implicitDefEqProofs (disch := (first | omega | (simp only [lenB, lowB_len, numB_len, nsumB_len] <;> omega) | fail)) only [admQ, lenB, lowB_len, numB_len, nsumB_len, aFill, AK.cls, implies_true, if_true, if_false, seval, -List.reduceReplicate, beq_self_eq_true]
  have c13 : own (m12 ++ [.row [.int .i64 18, .int .i64 32, .int .i64 4] false]) m12.length = some [.int .i64 18, .int .i64 32, .int .i64 4] := by rw [own_app_at0]; rfl
  have k13 := Kept.app [] m12 [.row [.int .i64 18, .int .i64 32, .int .i64 4] false]
  generalize m12 ++ [.row [.int .i64 18, .int .i64 32, .int .i64 4] false] = M13 at *
  have K : Kept [] m M13 := (k1.trans k2).trans (k3.trans (k4.trans (k5.trans (K57.trans (k8.trans (k9.trans (k10.trans (k11.trans (k12.trans k13)))))))))
  refine (ans_small M13).mono ?_
  rintro _ m14 ⟨rfl, k14⟩
  unfold geoV
  rw [hsm]
  simp -implicitDefEqProofs (disch := (first | omega | (simp only [lenB, lowB_len, numB_len, nsumB_len] <;> omega) | fail)) only [admQ, lenB, lowB_len, numB_len, nsumB_len, aFill, AK.cls, implies_true, if_true, if_false, seval, -List.reduceReplicate, rowOf_own c13, beq_self_eq_true]
  have c14 := k14.own c13 (by simp)
  simp -implicitDefEqProofs (disch := (first | omega | (simp only [lenB, lowB_len, numB_len, nsumB_len] <;> omega) | fail)) only [admQ, lenB, lowB_len, numB_len, nsumB_len, aFill, AK.cls, implies_true, if_true, if_false, seval, -List.reduceReplicate, rowOf_own c14]
  refine (ans_small m14).mono ?_
  rintro _ m15 ⟨rfl, k15⟩
  unfold geoV
  rw [hsm]
  have c15 := k15.own c14 (by simp)
  simp -implicitDefEqProofs (disch := (first | omega | (simp only [lenB, lowB_len, numB_len, nsumB_len] <;> omega) | fail)) only [admQ, lenB, lowB_len, numB_len, nsumB_len, aFill, AK.cls, implies_true, if_true, if_false, seval, -List.reduceReplicate, rowOf_own c15]
  have k16 := Kept.app [] m15 [.row [.int .i64 18, .int .i64 32, .int .i64 4, .int .i64 32, .int .i64 64, .int .i64 64] false]
  have b16 : (m15 ++ [.row [.int .i64 18, .int .i64 32, .int .i64 4, .int .i64 32, .int .i64 64, .int .i64 64] false] : Mem)[m15.length]? = some (.row [.int .i64 18, .int .i64 32, .int .i64 4, .int .i64 32, .int .i64 64, .int .i64 64] false) := by simp
  have c16 := k16.own c15 (by simp)
  generalize m15 ++ [.row [.int .i64 18, .int .i64 32, .int .i64 4, .int .i64 32, .int .i64 64, .int .i64 64] false] = M16 at *
  have up : ∀ {N N' : Mem} {q : Nat} {b : Blk}, Kept [] N N' → N[q]? = some b → N'[q]? = some b := fun {N N' q b} hk hb => by
    rw [hk.eq q (List.getElem?_eq_some_iff.mp hb).1 (by simp)]; exact hb
  refine (ans_SuperFound (L := [smallG, ⟨32, 64, 64⟩]) (E := []) (b := []) (.inr ⟨m15.length, 2, rfl, by rw [rowOf, b16]; rfl⟩) (.inl ⟨rfl, rfl⟩) (.nils M16)).mono ?_
  rintro _ m17 ⟨rfl, k17⟩
  have b17 := up k17 b16
  have c17 := k17.own c16 (by simp)
  simp -implicitDefEqProofs (disch := (first | omega | (simp only [lenB, lowB_len, numB_len, nsumB_len] <;> omega) | fail)) only [admQ, lenB, lowB_len, numB_len, nsumB_len, aFill, AK.cls, implies_true, if_true, if_false, seval, -List.reduceReplicate, rowOf_own c17, b17]
  refine (ans_small m17).mono ?_
  rintro _ m18 ⟨rfl, k18⟩
  unfold geoV
  rw [hsm]
  have b18 := up k18 b17
  have c18 := k18.own c17 (by simp)
  simp -implicitDefEqProofs (disch := (first | omega | (simp only [lenB, lowB_len, numB_len, nsumB_len] <;> omega) | fail)) only [admQ, lenB, lowB_len, numB_len, nsumB_len, aFill, AK.cls, implies_true, if_true, if_false, seval, -List.reduceReplicate, rowOf_own c18, b18]
  have k19 := Kept.app [] m18 [.row [.int .i64 18, .int .i64 32, .int .i64 4] false, .row [.int .i64 (-1)] false, .row [.int .u8 1] false]
  have x19 : (m18 ++ [.row [.int .i64 18, .int .i64 32, .int .i64 4] false, .row [.int .i64 (-1)] false, .row [.int .u8 1] false] : Mem)[m18.length]? = some (.row [.int .i64 18, .int .i64 32, .int .i64 4] false) := by simp
  have y19 : (m18 ++ [.row [.int .i64 18, .int .i64 32, .int .i64 4] false, .row [.int .i64 (-1)] false, .row [.int .u8 1] false] : Mem)[m18.length + 1]? = some (.row [.int .i64 (-1)] false) := by rw [List.getElem?_append_right (by omega), Nat.add_sub_cancel_left]; rfl
  have z19 : (m18 ++ [.row [.int .i64 18, .int .i64 32, .int .i64 4] false, .row [.int .i64 (-1)] false, .row [.int .u8 1] false] : Mem)[m18.length + 2]? = some (.row [.int .u8 1] false) := by rw [List.getElem?_append_right (by omega), Nat.add_sub_cancel_left]; rfl
  have b19 := up k19 b18
  have c19 := k19.own c18 (by simp)
  generalize m18 ++ [.row [.int .i64 18, .int .i64 32, .int .i64 4] false, .row [.int .i64 (-1)] false, .row [.int .u8 1] false] = M19 at *
  refine (ans_SuperFound (L := [smallG]) (E := [-1]) (b := [1#8]) (.inr ⟨m18.length, 1, rfl, by rw [rowOf, x19]; rfl⟩) (.inr ⟨m18.length + 1, 1, rfl, by rw [rowOf, y19]; rfl⟩) (RdB.row (l := [1#8]) 1 0 (by rw [rowOf, z19]; rfl) (by simp))).mono ?_
  rintro _ m20 ⟨rfl, k20⟩
  simp -implicitDefEqProofs (disch := (first | omega | (simp only [lenB, lowB_len, numB_len, nsumB_len] <;> omega) | fail)) only [admQ, lenB, lowB_len, numB_len, nsumB_len, aFill, AK.cls, implies_true, if_true, if_false, seval, -List.reduceReplicate, rowOf_own (k20.own c19 (by simp)), up k20 b19, up k20 x19, up k20 y19, up k20 z19]
  refine (ans_suknown m20).mono ?_
  rintro _ m21 ⟨rfl, k21⟩
  have k21' := k20.trans k21
  simp -implicitDefEqProofs (disch := (first | omega | (simp only [lenB, lowB_len, numB_len, nsumB_len] <;> omega) | fail)) only [admQ, lenB, lowB_len, numB_len, nsumB_len, aFill, AK.cls, implies_true, if_true, if_false, seval, -List.reduceReplicate, rowOf_own (k21'.own c19 (by simp)), up k21' b19, up k21' x19, up k21' y19, up k21' z19]
  exact K.trans (k14.trans (k15.trans (k16.trans (k17.trans (k18.trans (k19.trans k21'))))))
end Go.Proofs.Ytoegmnnecanhfaa
end
