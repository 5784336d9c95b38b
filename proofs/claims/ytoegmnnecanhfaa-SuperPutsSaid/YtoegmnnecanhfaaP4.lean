/- Texts of this seat, joined (part 4 of 4): an abstract memory for Go programs, this seat's functions as abstract code, and what each of them does. -/
import Derived.Test.YtoegmnnecanhfaaP3
set_option linter.unusedSimpArgs false
section
/- The disk. -/
namespace Go.Proofs.Ytoegmnnecanhfaa
open Go Go.Adm
set_option linter.unusedSimpArgs false
set_option linter.unusedVariables false
set_option maxRecDepth 100000
abbrev Cch := List (Int × List B8)
def cIdx (c : Cch) (i : Int) : Option Nat := fidx i (c.map (·.1))
def cGet (c : Cch) (i : Int) : Option (List B8) := (cIdx c i).bind fun j => (c[j]?).map (·.2)
def cPut (c : Cch) (i : Int) (b : List B8) : Cch := match cIdx c i with
  | some j => c.set j (i, b)
  | none => c ++ [(i, b)]
theorem cIdx_some {c : Cch} {i : Int} {j : Nat} (h : cIdx c i = some j) : ∃ b, c[j]? = some (i, b) := by
  have := fidx_some h
  rw [List.getElem?_map] at this
  obtain ⟨e, h1, h2⟩ := Option.map_eq_some_iff.mp this
  obtain ⟨k, b⟩ := e
  simp only at h2
  subst h2
  exact ⟨b, h1⟩
theorem cPut_keys {c : Cch} {i : Int} {b : List B8} (h : (c.map (·.1)).Nodup) : ((cPut c i b).map (·.1)).Nodup := by
  unfold cPut
  cases hj : cIdx c i with
  | some j =>
    obtain ⟨b', hb⟩ := cIdx_some hj
    have hl := lt_of_get hb
    have : (c.set j (i, b)).map (·.1) = c.map (·.1) := by
      rw [List.map_set]
      apply List.ext_getElem?
      intro k
      by_cases hk : j = k
      · subst hk
        rw [List.getElem?_set_self (by simpa using hl), List.getElem?_map, hb]; rfl
      · rw [List.getElem?_set_ne hk]
    rw [this]; exact h
  | none =>
    have := fidx_none.mp hj
    rw [List.map_append, List.nodup_append]
    refine ⟨h, by simp, ?_⟩
    intro a ha b' hb'
    simp only [List.map_cons, List.map_nil, List.mem_singleton] at hb'
    subst hb'
    rintro rfl
    exact this ha
theorem cGet_put {c : Cch} {i : Int} {b : List B8} (h : (c.map (·.1)).Nodup) : cGet (cPut c i b) i = some b := by
  unfold cGet
  have key : ∀ j : Nat, (cPut c i b)[j]? = some (i, b) → (cIdx (cPut c i b) i).bind (fun j => ((cPut c i b)[j]?).map (·.2)) = some b := fun j hj => by
    have : cIdx (cPut c i b) i = some j := fidx_nodup (cPut_keys h) (by rw [List.getElem?_map, hj]; rfl)
    rw [this, Option.bind_some, hj]; rfl
  cases hj : cIdx c i with
  | some j =>
    obtain ⟨b', hb⟩ := cIdx_some hj
    refine key j ?_
    unfold cPut
    rw [hj]
    exact List.getElem?_set_self (lt_of_get hb)
  | none =>
    refine key c.length ?_
    unfold cPut
    rw [hj]
    simp
/-- A disk. -/
structure Dk where
  lasts : List (List B8)
  cache : Cch
  armed : Bool
  left : Int
  off : Bool
  writes : Int
  reads : List Int
def okI (d : Dk) (i : Int) : Prop := 0 ≤ i ∧ i < d.lasts.length
instance (d : Dk) (i : Int) : Decidable (okI d i) := by unfold okI; infer_instance
def wrongD (d : Dk) (i : Int) (b : List B8) : Int := if ¬ okI d i then 7 else if b.length > 1024 then 3 else 0
def spendE (d : Dk) : Int := if d.off = true then 12 else if d.armed = true ∧ d.left = 0 then 12 else 0
def spendD (d : Dk) : Dk := if d.off = true then d else if d.armed = true ∧ d.left = 0 then { d with off := true } else { d with left := IntKind.i64.wrap (d.left - 1) }
def writeE (d : Dk) (i : Int) (b : List B8) : Int := if d.off = true then 12 else if wrongD d i b ≠ 0 then wrongD d i b else spendE d
def writeD (d : Dk) (i : Int) (b : List B8) : Dk := if d.off = true then d else if wrongD d i b ≠ 0 then d else if spendE d ≠ 0 then spendD d else { spendD d with cache := cPut d.cache i b, writes := IntKind.i64.wrap (d.writes + 1) }
def peekD (d : Dk) (i : Int) : List B8 := (cGet d.cache i).getD ((d.lasts[i.toNat]?).getD [])
def readD (d : Dk) (i : Int) : Dk := { d with reads := d.reads.set i.toNat (IntKind.i64.wrap ((d.reads[i.toNat]?).getD 0 + 1)) }
/-- Bytes that are held: in blocks of R, none of W. -/
def RdV (m : Mem) (W R : List Nat) (v : AV) (l : List B8) : Prop := RdB m v l ∧ ∀ q ∈ blkOf v, q ∈ R ∧ q ∉ W
theorem RdV.kept {m m' : Mem} {W R R' X : List Nat} {v : AV} {l : List B8} (h : RdV m W R v l) (hk : Kept X m m') (hX : ∀ q ∈ blkOf v, q ∉ X) (hR : ∀ q ∈ R, q ∈ R') : RdV m' W R' v l :=
  ⟨rdb_ap h.1 hk hX, fun q hq => ⟨hR q (h.2 q hq).1, (h.2 q hq).2⟩⟩
/-- A disk at x: the blocks W are written, R are read. -/
structure Dsk (m : Mem) (x : Nat) (W R : List Nat) (d : Dk) : Prop where
  ex : ∃ pl pm pr lv es ck, W = [x, pl, pm, pr] ∧ W.Nodup ∧ own m x = some [.sl pl 0 d.lasts.length d.lasts.length 0, .map pm, .bool d.armed, .int .i64 d.left, .bool d.off, .int .i64 d.writes, .sl pr 0 d.lasts.length d.lasts.length 0] ∧
    (own m pl = some lv ∧ lv.length = d.lasts.length ∧ ∀ (i : Nat) l, d.lasts[i]? = some l → ∃ v, lv[i]? = some v ∧ RdV m W R v l) ∧
    (m[pm]? = some (.map es ck) ∧ es.length = d.cache.length ∧ ∀ (j : Nat) k l, d.cache[j]? = some (k, l) → ∃ v c, es[j]? = some (.int .i64 k, v, c) ∧ RdV m W R v l) ∧
    own m pr = some (d.reads.map (.int .i64)) ∧ d.reads.length = d.lasts.length
  sub : ∀ q ∈ W, q ∈ R
  lt : ∀ q ∈ R, q < m.length
  keys : (d.cache.map (·.1)).Nodup
  sz : 1 ≤ d.lasts.length ∧ d.lasts.length ≤ 4096
theorem Dsk.kept {m m' : Mem} {x : Nat} {W R X : List Nat} {d : Dk} (h : Dsk m x W R d) (hk : Kept X m m') (hX : ∀ q ∈ R, q ∉ X) : Dsk m' x W R d := by
  obtain ⟨pl, pm, pr, lv, es, ck, rfl, hn, h1, ⟨h2, h3, h4⟩, ⟨h5, h6, h7⟩, h8, h9⟩ := h.ex
  have hs := h.sub
  have hV : ∀ {v : AV} {l : List B8}, RdV m [x, pl, pm, pr] R v l → RdV m' [x, pl, pm, pr] R v l := fun hv => hv.kept hk (fun q hq => hX q (hv.2 q hq).1) (fun _ h => h)
  refine ⟨⟨pl, pm, pr, lv, es, ck, rfl, hn, hk.own h1 (hX x (hs x (by simp))), ⟨hk.own h2 (hX pl (hs pl (by simp))), h3, fun i l hl => ?_⟩, ⟨?_, h6, fun j k l hl => ?_⟩, hk.own h8 (hX pr (hs pr (by simp))), h9⟩, hs, fun q hq => Nat.lt_of_lt_of_le (h.lt q hq) hk.len, h.keys, h.sz⟩
  · obtain ⟨v, g1, g2⟩ := h4 i l hl; exact ⟨v, g1, hV g2⟩
  · rw [hk.eq pm (lt_of_get h5) (hX pm (hs pm (by simp)))]; exact h5
  · obtain ⟨v, c, g1, g2⟩ := h7 j k l hl; exact ⟨v, c, g1, hV g2⟩
theorem Dsk.kept0 {m m' : Mem} {x : Nat} {W R : List Nat} {d : Dk} (h : Dsk m x W R d) (hk : Kept [] m m') : Dsk m' x W R d := h.kept hk (by simp)
theorem aFind_int (i : Int) : ∀ (c : Cch) (es : List (AV × AV × Nat)) (i0 : Nat), es.length = c.length → (∀ (j : Nat) k b, c[j]? = some (k, b) → ∃ v n, es[j]? = some (.int .i64 k, v, n)) →
    aFind (.one .i) (.int .i64 i) es i0 = some ((cIdx c i).map fun j => (i0 + j, ((es[j]?).map (·.2.1)).getD .nils)) := by
  intro c
  induction c with
  | nil =>
    intro es i0 hl _
    have : es = [] := List.length_eq_zero_iff.mp hl
    subst this; rfl
  | cons e c ih =>
    intro es i0 hl h
    cases es with
    | nil => cases hl
    | cons f es =>
      obtain ⟨k, b⟩ := e
      obtain ⟨v, n, h0⟩ := h 0 k b rfl
      simp only [List.getElem?_cons_zero, Option.some.injEq] at h0
      subst h0
      have ih' := ih es (i0 + 1) (by simpa using hl) (fun j k b hj => h (j + 1) k b (by simpa using hj))
      unfold aFind
      have hm : mapEq (.one .i) (.int .i64 i) (.int .i64 k) = some (i == k) := rfl
      simp only [hm, Option.bind_some]
      unfold cIdx at ih' ⊢
      simp only [List.map_cons]
      unfold fidx
      by_cases hk : i = k
      · subst hk
        simp
      · rw [beq_eq_false_iff_ne.mpr hk, if_neg hk, ih']
        cases fidx i (c.map (·.1)) with
        | none => rfl
        | some j => simp [Nat.add_assoc, Nat.add_comm 1 j]
/-- A map's entries show a cache. -/
def CchR (P : AV → List B8 → Prop) (es : List (AV × AV × Nat)) (c : Cch) : Prop := es.length = c.length ∧ ∀ (j : Nat) k l, c[j]? = some (k, l) → ∃ v n, es[j]? = some (.int .i64 k, v, n) ∧ P v l
def esPut (c : Cch) (i : Int) (v : AV) (ck : Nat) (es : List (AV × AV × Nat)) : List (AV × AV × Nat) := match cIdx c i with
  | some j => es.set j (.int .i64 i, v, ((es[j]?).map fun e => e.2.2).getD 0)
  | none => es ++ [(.int .i64 i, v, ck)]
def ckPut (c : Cch) (i : Int) (ck : Nat) : Nat := match cIdx c i with
  | some _ => ck
  | none => ck + 1
theorem CchR.mono {P Q : AV → List B8 → Prop} {es : List (AV × AV × Nat)} {c : Cch} (h : CchR P es c) (hq : ∀ v l, P v l → Q v l) : CchR Q es c :=
  ⟨h.1, fun j k l hj => let ⟨v, n, h1, h2⟩ := h.2 j k l hj; ⟨v, n, h1, hq _ _ h2⟩⟩
theorem CchR.put {P : AV → List B8 → Prop} {es : List (AV × AV × Nat)} {c : Cch} (h : CchR P es c) {v : AV} {b : List B8} (hv : P v b) (i : Int) (ck : Nat) : CchR P (esPut c i v ck es) (cPut c i b) := by
  unfold esPut cPut
  cases hj : cIdx c i with
  | some j0 =>
    obtain ⟨b', hb⟩ := cIdx_some hj
    have hl := lt_of_get hb
    refine ⟨by simp [h.1], fun j k l hjl => ?_⟩
    by_cases hjj : j0 = j
    · subst hjj
      simp only [List.getElem?_set_self hl, Option.some.injEq, Prod.mk.injEq] at hjl
      obtain ⟨rfl, rfl⟩ := hjl
      exact ⟨v, _, List.getElem?_set_self (by rw [h.1]; exact hl), hv⟩
    · simp only [List.getElem?_set_ne hjj] at hjl ⊢
      exact h.2 j k l hjl
  | none =>
    refine ⟨by simp [h.1], fun j k l hjl => ?_⟩
    by_cases hlt : j < c.length
    · simp only [List.getElem?_append_left hlt] at hjl
      obtain ⟨v', n, h1, h2⟩ := h.2 j k l hjl
      exact ⟨v', n, by simp only [List.getElem?_append_left (show j < es.length by rw [h.1]; exact hlt)]; exact h1, h2⟩
    · have hle := lt_of_get hjl
      simp only [List.length_append, List.length_cons, List.length_nil] at hle
      obtain rfl : j = c.length := by omega
      simp only [List.getElem?_concat_length, Option.some.injEq, Prod.mk.injEq] at hjl
      obtain ⟨rfl, rfl⟩ := hjl
      exact ⟨v, ck, by rw [← h.1, List.getElem?_concat_length], hv⟩
theorem CchR.find {P : AV → List B8 → Prop} {es : List (AV × AV × Nat)} {c : Cch} (h : CchR P es c) (i : Int) : aFind (.one .i) (.int .i64 i) es 0 = some ((cIdx c i).map fun j => (j, ((es[j]?).map (·.2.1)).getD .nils)) := by
  rw [aFind_int i c es 0 h.1 (fun j k b hj => let ⟨v, n, h1, _⟩ := h.2 j k b hj; ⟨v, n, h1⟩)]
  simp
theorem cch_set {P : AV → List B8 → Prop} {m : Mem} {p ck : Nat} {es : List (AV × AV × Nat)} {c : Cch} (hp : m[p]? = some (.map es ck)) (h : CchR P es c) (i : Int) (v : AV) :
    aMapSet (.one .i) m [.map p, .int .i64 i, v] = some (.tup [], m.set p (.map (esPut c i v ck es) (ckPut c i ck))) := by
  have hmo : mapOf m p = some (es, ck) := by unfold mapOf; rw [hp]
  have hkf : keyFits (.one .i) (.int .i64 i) = true := rfl
  show (if keyFits (.one .i) (.int .i64 i) = true then (mapOf m p).bind fun q => (aPutMap (.one .i) (.int .i64 i) v q.1 q.2).map fun q => (AV.tup [], m.set p (.map q.1 q.2)) else none) = _
  rw [if_pos hkf, hmo]
  unfold aPutMap esPut ckPut
  simp only [Option.bind_some, h.find]
  cases cIdx c i <;> simp
theorem cch_look {P : AV → List B8 → Prop} {m : Mem} {p ck : Nat} {es : List (AV × AV × Nat)} {c : Cch} (hp : m[p]? = some (.map es ck)) (h : CchR P es c) (i : Int) :
    ∃ v, rLookup (.one .i) .nils true m [.map p, .int .i64 i] = some (.tup [v, .bool (cGet c i).isSome]) ∧ (match cGet c i with | some l => P v l | none => v = .nils) := by
  have hmo : mapOf m p = some (es, ck) := by unfold mapOf; rw [hp]
  have hkf : keyFits (.one .i) (.int .i64 i) = true := rfl
  have e : rLookup (.one .i) .nils true m [.map p, .int .i64 i] = (if keyFits (.one .i) (.int .i64 i) = true then (mapOf m p).bind fun q => (aFind (.one .i) (.int .i64 i) q.1 0).map (lookRes .nils true) else none) := rfl
  rw [e, if_pos hkf, hmo]
  simp only [Option.bind_some, h.find]
  unfold cGet
  cases hj : cIdx c i with
  | none => exact ⟨.nils, rfl, rfl⟩
  | some j =>
    obtain ⟨b', hb⟩ := cIdx_some hj
    obtain ⟨v, n, h1, h2⟩ := h.2 j i b' hb
    refine ⟨v, ?_, ?_⟩
    · simp [h1, hb, lookRes]
    · simp only [Option.bind_some, hb, Option.map_some]; exact h2
end Go.Proofs.Ytoegmnnecanhfaa
end
section
/- The disk, walked. -/
namespace Go.Proofs.Ytoegmnnecanhfaa
open Go Go.Adm
set_option linter.unusedSimpArgs false
set_option linter.unusedVariables false
set_option maxRecDepth 100000
theorem ans_dkthere {m : Mem} {x : Nat} {W R : List Nat} {d : Dk} (h : Dsk m x W R d) (i : Int) : Ans Try.prog 35 [.ptr x 0, .int .i64 i] m fun r m' => r = .bool (decide (okI d i)) ∧ m' = m := by
  refine ans_ret mixed ok35 ?_
  obtain ⟨pl, pm, pr, lv, es, ck, rfl, hn, h1, -⟩ := h.ex
  by_cases hi : i ≥ 0
  · by_cases hj : i < (d.lasts.length : Int)
    · simp -implicitDefEqProofs (disch := (first | omega | (simp only [lenB, lowB_len, numB_len, nsumB_len] <;> omega) | fail)) only [admQ, lenB, lowB_len, numB_len, nsumB_len, aFill, AK.cls, implies_true, if_true, if_false, seval, -List.reduceReplicate, c35, r35, rowOf_own h1, dec_t hi, dec_t hj, dec_t (show okI d i from ⟨hi, hj⟩)]
    · simp -implicitDefEqProofs (disch := (first | omega | (simp only [lenB, lowB_len, numB_len, nsumB_len] <;> omega) | fail)) only [admQ, lenB, lowB_len, numB_len, nsumB_len, aFill, AK.cls, implies_true, if_true, if_false, seval, -List.reduceReplicate, c35, r35, rowOf_own h1, dec_t hi, dec_f hj, dec_f (show ¬ okI d i from fun h => hj h.2)]
  · simp -implicitDefEqProofs (disch := (first | omega | (simp only [lenB, lowB_len, numB_len, nsumB_len] <;> omega) | fail)) only [admQ, lenB, lowB_len, numB_len, nsumB_len, aFill, AK.cls, implies_true, if_true, if_false, seval, -List.reduceReplicate, c35, r35, rowOf_own h1, dec_f hi, dec_f (show ¬ okI d i from fun h => hi h.1)]
theorem ans_dkwrong {m : Mem} {x : Nat} {W R : List Nat} {d : Dk} {y : AV} {b : List B8} (h : Dsk m x W R d) (hy : RdB m y b) (i : Int) : Ans Try.prog 38 [.ptr x 0, .int .i64 i, y] m fun r m' => r = .int .i64 (wrongD d i b) ∧ m' = m := by
  refine ans_ret mixed ok38 ?_
  simp -implicitDefEqProofs (disch := (first | omega | (simp only [lenB, lowB_len, numB_len, nsumB_len] <;> omega) | fail)) only [admQ, lenB, lowB_len, numB_len, nsumB_len, aFill, AK.cls, implies_true, if_true, if_false, seval, -List.reduceReplicate, c38, r38]
  refine (ans_dkthere h i).mono ?_
  rintro _ M ⟨rfl, hM⟩
  subst hM
  unfold wrongD
  by_cases h1 : okI d i
  · by_cases h2 : b.length > 1024
    · simp -implicitDefEqProofs (disch := (first | omega | (simp only [lenB, lowB_len, numB_len, nsumB_len] <;> omega) | fail)) only [admQ, lenB, lowB_len, numB_len, nsumB_len, aFill, AK.cls, implies_true, if_true, if_false, seval, -List.reduceReplicate, dec_t h1, Bool.not_true, hy.len, dec_t (show (b.length : Int) > 1024 by omega), h1, h2]
    · simp -implicitDefEqProofs (disch := (first | omega | (simp only [lenB, lowB_len, numB_len, nsumB_len] <;> omega) | fail)) only [admQ, lenB, lowB_len, numB_len, nsumB_len, aFill, AK.cls, implies_true, if_true, if_false, seval, -List.reduceReplicate, dec_t h1, Bool.not_true, hy.len, dec_f (show ¬ (b.length : Int) > 1024 by omega), h1, h2]
  · simp -implicitDefEqProofs (disch := (first | omega | (simp only [lenB, lowB_len, numB_len, nsumB_len] <;> omega) | fail)) only [admQ, lenB, lowB_len, numB_len, nsumB_len, aFill, AK.cls, implies_true, if_true, if_false, seval, -List.reduceReplicate, dec_f h1, Bool.not_false, h1]
theorem ans_dkspend {m : Mem} {x : Nat} {W R : List Nat} {d : Dk} (h : Dsk m x W R d) : Ans Try.prog 49 [.ptr x 0] m fun r m' => r = .int .i64 (spendE d) ∧ Kept W m m' ∧ Dsk m' x W R (spendD d) ∧ m'.length = m.length := by
  refine ans_ret mixed ok49 ?_
  obtain ⟨pl, pm, pr, lv, es, ck, rfl, hn, h1, ⟨h2, h3, h4⟩, ⟨h5, h6, h7⟩, h8, h9⟩ := h.ex
  have hx := own_lt h1
  simp only [List.nodup_cons, List.mem_cons, List.not_mem_nil, or_false, not_or] at hn
  have done : ∀ d' : Dk, d'.lasts = d.lasts → d'.cache = d.cache → d'.reads = d.reads → ∀ cells, cells = [AV.sl pl 0 d'.lasts.length d'.lasts.length 0, .map pm, .bool d'.armed, .int .i64 d'.left, .bool d'.off, .int .i64 d'.writes, .sl pr 0 d'.lasts.length d'.lasts.length 0] →
      Kept [x, pl, pm, pr] m (m.set x (.row cells false)) ∧ Dsk (m.set x (.row cells false)) x [x, pl, pm, pr] R d' ∧ (m.set x (.row cells false)).length = m.length := by
    intro d' e1 e2 e3 cells hc
    have kX : Kept [x] m (m.set x (.row cells false)) := .set1 _ _ _
    have hV : ∀ {v : AV} {l : List B8}, RdV m [x, pl, pm, pr] R v l → RdV (m.set x (.row cells false)) [x, pl, pm, pr] R v l := fun hv => hv.kept kX (fun q hq h => (hv.2 q hq).2 (by simp only [List.mem_singleton] at h; simp [h])) (fun _ h => h)
    refine ⟨kX.more (by simp), ⟨⟨pl, pm, pr, lv, es, ck, rfl, by simp [hn], by rw [hc]; exact own_set hx _, ⟨kX.own h2 (by simp; omega), by rw [e1]; exact h3, fun i l hl => ?_⟩, ⟨?_, by rw [e2]; exact h6, fun j k l hl => ?_⟩, by rw [e3]; exact kX.own h8 (by simp; omega), by rw [e1, e3]; exact h9⟩, h.sub, fun q hq => by rw [List.length_set]; exact h.lt q hq, by rw [e2]; exact h.keys, by rw [e1]; exact h.sz⟩, List.length_set⟩
    · rw [e1] at hl; obtain ⟨v, g1, g2⟩ := h4 i l hl; exact ⟨v, g1, hV g2⟩
    · rw [kX.eq pm (lt_of_get h5) (by simp; omega)]; exact h5
    · rw [e2] at hl; obtain ⟨v, c, g1, g2⟩ := h7 j k l hl; exact ⟨v, c, g1, hV g2⟩
  by_cases ho : d.off = true
  · rw [spendE, spendD, if_pos ho, if_pos ho]
    simp -implicitDefEqProofs (disch := (first | omega | (simp only [lenB, lowB_len, numB_len, nsumB_len] <;> omega) | fail)) only [admQ, lenB, lowB_len, numB_len, nsumB_len, aFill, AK.cls, implies_true, if_true, if_false, seval, -List.reduceReplicate, c49, r49, rowOf_own h1, ho]
    exact ⟨.refl _ _, h⟩
  · have ho' : d.off = false := by simpa using ho
    by_cases ha : d.armed = true ∧ d.left = 0
    · rw [spendE, spendD, if_neg ho, if_pos ha, if_neg ho, if_pos ha]
      obtain ⟨ha1, ha2⟩ := ha
      simp -implicitDefEqProofs (disch := (first | omega | (simp only [lenB, lowB_len, numB_len, nsumB_len] <;> omega) | fail)) only [admQ, lenB, lowB_len, numB_len, nsumB_len, aFill, AK.cls, implies_true, if_true, if_false, seval, -List.reduceReplicate, c49, r49, rowOf_own h1, ho', ha1, beq_iff_eq.mpr ha2, h1]
      obtain ⟨r1, r2, -⟩ := done ⟨d.lasts, d.cache, true, d.left, true, d.writes, d.reads⟩ rfl rfl rfl _ rfl
      exact ⟨r1, r2⟩
    · rw [spendE, spendD, if_neg ho, if_neg ha, if_neg ho, if_neg ha]
      cases har : d.armed with
      | true =>
        have ha2 : ¬ d.left = 0 := fun h => ha ⟨har, h⟩
        simp -implicitDefEqProofs (disch := (first | omega | (simp only [lenB, lowB_len, numB_len, nsumB_len] <;> omega) | fail)) only [admQ, lenB, lowB_len, numB_len, nsumB_len, aFill, AK.cls, implies_true, if_true, if_false, seval, -List.reduceReplicate, c49, r49, rowOf_own h1, ho', har, beq_eq_false_iff_ne.mpr ha2, h1]
        obtain ⟨r1, r2, -⟩ := done ⟨d.lasts, d.cache, true, IntKind.i64.wrap (d.left - 1), false, d.writes, d.reads⟩ rfl rfl rfl _ rfl
        exact ⟨r1, r2⟩
      | false =>
        simp -implicitDefEqProofs (disch := (first | omega | (simp only [lenB, lowB_len, numB_len, nsumB_len] <;> omega) | fail)) only [admQ, lenB, lowB_len, numB_len, nsumB_len, aFill, AK.cls, implies_true, if_true, if_false, seval, -List.reduceReplicate, c49, r49, rowOf_own h1, ho', har, h1]
        obtain ⟨r1, r2, -⟩ := done ⟨d.lasts, d.cache, false, IntKind.i64.wrap (d.left - 1), false, d.writes, d.reads⟩ rfl rfl rfl _ rfl
        exact ⟨r1, r2⟩
theorem ans_dkwrite {m : Mem} {x : Nat} {W R : List Nat} {d : Dk} {y : AV} {b : List B8} (h : Dsk m x W R d) (hy : RdB m y b) (hyW : ∀ q ∈ blkOf y, q ∉ W) (hl : b.length ≤ 100000) (i : Int) :
    Ans Try.prog 34 [.ptr x 0, .int .i64 i, y] m fun r m' => r = .int .i64 (writeE d i b) ∧ Kept W m m' ∧ ∃ R', Dsk m' x W R' (writeD d i b) ∧ ∀ q ∈ R', q ∈ R ∨ m.length ≤ q := by
  refine ans_ret mixed ok34 ?_
  have hno : ∀ d', d' = d → Kept W m m ∧ ∃ R', Dsk m x W R' d' ∧ ∀ q ∈ R', q ∈ R ∨ m.length ≤ q := fun d' e => ⟨.refl _ _, R, by rw [e]; exact h, fun q hq => .inl hq⟩
  obtain ⟨pl, pm, pr, lv, es, ck, hWe, hn, h1, -⟩ := h.ex
  by_cases ho : d.off = true
  · rw [writeE, if_pos ho]
    simp -implicitDefEqProofs (disch := (first | omega | (simp only [lenB, lowB_len, numB_len, nsumB_len] <;> omega) | fail)) only [admQ, lenB, lowB_len, numB_len, nsumB_len, aFill, AK.cls, implies_true, if_true, if_false, seval, -List.reduceReplicate, c34, r34, rowOf_own h1, ho]
    exact hno _ (by rw [writeD, if_pos ho])
  have ho' : d.off = false := by simpa using ho
  simp -implicitDefEqProofs (disch := (first | omega | (simp only [lenB, lowB_len, numB_len, nsumB_len] <;> omega) | fail)) only [admQ, lenB, lowB_len, numB_len, nsumB_len, aFill, AK.cls, implies_true, if_true, if_false, seval, -List.reduceReplicate, c34, r34, rowOf_own h1, ho']
  refine (ans_dkwrong h hy i).mono ?_
  rintro _ M ⟨rfl, hM⟩
  subst hM
  by_cases hw : wrongD d i b = 0
  · simp -implicitDefEqProofs (disch := (first | omega | (simp only [lenB, lowB_len, numB_len, nsumB_len] <;> omega) | fail)) only [admQ, lenB, lowB_len, numB_len, nsumB_len, aFill, AK.cls, implies_true, if_true, if_false, seval, -List.reduceReplicate, hw]
    refine (ans_dkspend h).mono ?_
    rintro _ m1 ⟨rfl, k1, hD, hml⟩
    have hw2 : ¬ (wrongD d i b ≠ 0) := by simp [hw]
    rw [writeE, if_neg ho, if_neg hw2]
    by_cases hs : spendE d = 0
    · have hs2 : ¬ (spendE d ≠ 0) := by simp [hs]
      obtain ⟨pl', pm', pr', lv', es', ck', hWe', hn', g1, ⟨g2, g3, g4⟩, ⟨g5, g6, g7⟩, g8, g9⟩ := hD.ex
      have hd1 : (spendD d).cache = d.cache ∧ (spendD d).lasts = d.lasts ∧ (spendD d).reads = d.reads ∧ (spendD d).writes = d.writes := by unfold spendD; split <;> (try split) <;> exact ⟨rfl, rfl, rfl, rfl⟩
      rw [writeD, if_neg ho, if_neg hw2, if_neg hs2]
      simp -implicitDefEqProofs (disch := (first | omega | (simp only [lenB, lowB_len, numB_len, nsumB_len] <;> omega) | fail)) only [admQ, lenB, lowB_len, numB_len, nsumB_len, aFill, AK.cls, implies_true, if_true, if_false, seval, -List.reduceReplicate, hs, rowOf_own g1]
      refine (ans_slclone (rdb_ap hy k1 hyW) (by omega)).mono ?_
      rintro v m2 ⟨k2, g, lo⟩
      have f1 := k2.own g1 (by simp)
      have f5 : m2[pm']? = some (.map es' ck') := by rw [k2.eq pm' (lt_of_get g5) (by simp)]; exact g5
      have hxw : x ∈ W ∧ pm' ∈ W := by rw [hWe']; simp
      have hCR : CchR (RdV m1 W R) es' (spendD d).cache := ⟨g6, g7⟩
      have hset := cch_set f5 hCR i v
      have hn2 := hn'
      rw [hWe'] at hn2
      simp only [List.nodup_cons, List.mem_cons, List.not_mem_nil, or_false, not_or] at hn2
      have lm := lt_of_get f5
      have lx := own_lt f1
      have q1 : own (m2.set pm' (.map (esPut (spendD d).cache i v ck' es') (ckPut (spendD d).cache i ck'))) x = some [.sl pl' 0 (spendD d).lasts.length (spendD d).lasts.length 0, .map pm', .bool (spendD d).armed, .int .i64 (spendD d).left, .bool (spendD d).off, .int .i64 (spendD d).writes, .sl pr' 0 (spendD d).lasts.length (spendD d).lasts.length 0] := own_set_ne' f1 (by omega) _
      simp -implicitDefEqProofs (disch := (first | omega | (simp only [lenB, lowB_len, numB_len, nsumB_len] <;> omega) | fail)) only [admQ, lenB, lowB_len, numB_len, nsumB_len, aFill, AK.cls, implies_true, if_true, if_false, seval, -List.reduceReplicate, rowOf_own f1, rowOf_own g1, mapR, hset, rowOf_own q1, q1]
      have KX : Kept [x, pm'] m2 ((m2.set pm' (.map (esPut (spendD d).cache i v ck' es') (ckPut (spendD d).cache i ck'))).set x (.row [.sl pl' 0 (spendD d).lasts.length (spendD d).lasts.length 0, .map pm', .bool (spendD d).armed, .int .i64 (spendD d).left, .bool (spendD d).off, .int .i64 (IntKind.i64.wrap ((spendD d).writes + 1)), .sl pr' 0 (spendD d).lasts.length (spendD d).lasts.length 0] false)) :=
        (Kept.set (X := [x, pm']) m2 pm' _ (by simp)).trans (.set _ x _ (by simp))
      have x4 := own_set (own_lt q1) [AV.sl pl' 0 (spendD d).lasts.length (spendD d).lasts.length 0, .map pm', .bool (spendD d).armed, .int .i64 (spendD d).left, .bool (spendD d).off, .int .i64 (IntKind.i64.wrap ((spendD d).writes + 1)), .sl pr' 0 (spendD d).lasts.length (spendD d).lasts.length 0]
      have p4 : ((m2.set pm' (.map (esPut (spendD d).cache i v ck' es') (ckPut (spendD d).cache i ck'))).set x (.row [.sl pl' 0 (spendD d).lasts.length (spendD d).lasts.length 0, .map pm', .bool (spendD d).armed, .int .i64 (spendD d).left, .bool (spendD d).off, .int .i64 (IntKind.i64.wrap ((spendD d).writes + 1)), .sl pr' 0 (spendD d).lasts.length (spendD d).lasts.length 0] false))[pm']? = some (.map (esPut (spendD d).cache i v ck' es') (ckPut (spendD d).cache i ck')) := by
        rw [List.getElem?_set_ne (by omega), List.getElem?_set_self lm]
      generalize ((m2.set pm' (.map (esPut (spendD d).cache i v ck' es') (ckPut (spendD d).cache i ck'))).set x (.row [.sl pl' 0 (spendD d).lasts.length (spendD d).lasts.length 0, .map pm', .bool (spendD d).armed, .int .i64 (spendD d).left, .bool (spendD d).off, .int .i64 (IntKind.i64.wrap ((spendD d).writes + 1)), .sl pr' 0 (spendD d).lasts.length (spendD d).lasts.length 0] false)) = m4 at KX x4 p4
      have hnX : ∀ q, q ∉ W → q ∉ [x, pm'] := fun q hq h => by
        simp only [List.mem_cons, List.not_mem_nil, or_false] at h
        rcases h with rfl | rfl
        · exact hq hxw.1
        · exact hq hxw.2
      have hold : ∀ v0 l0, RdV m1 W R v0 l0 → RdV m4 W (R ++ blkOf v) v0 l0 := fun v0 l0 hv =>
        ⟨rdb_ap (hv.1.kept0 k2) KX (fun q hq => hnX q (hv.2 q hq).2), fun q hq => ⟨by simp [(hv.2 q hq).1], (hv.2 q hq).2⟩⟩
      have hWlt : ∀ q ∈ W, q < m1.length := fun q hq => hD.lt q (hD.sub q hq)
      have hvW : ∀ q ∈ blkOf v, q ∉ W := fun q hq h => by have := lo q hq; have := hWlt q h; omega
      have hnew : RdV m4 W (R ++ blkOf v) v b := ⟨rdb_ap g.rd KX (fun q hq => hnX q (hvW q hq)), fun q hq => ⟨by simp [hq], hvW q hq⟩⟩
      have hCR4 := CchR.put (hCR.mono hold) hnew i ck'
      have h24 := KX.len
      have h12 := k2.len
      have hlv := g.lt
      refine ⟨(k1.trans (k2.any)).trans (KX.more (fun q hq _ => by simp only [List.mem_cons, List.not_mem_nil, or_false] at hq; rcases hq with rfl | rfl; exact hxw.1; exact hxw.2)), R ++ blkOf v, ⟨⟨pl', pm', pr', lv', _, _, hWe', hn', by rw [x4, hd1.2.2.2], ⟨(KX.own (k2.own g2 (by simp)) (by simp; omega)), g3, fun i l hi => let ⟨v0, e1, e2⟩ := g4 i l hi; ⟨v0, e1, hold _ _ e2⟩⟩, ⟨p4, by rw [← hd1.1]; exact hCR4.1, by rw [← hd1.1]; exact hCR4.2⟩, KX.own (k2.own g8 (by simp)) (by simp; omega), g9⟩, fun q hq => by simp [hD.sub q hq], fun q hq => ?_, by rw [← hd1.1]; exact cPut_keys hD.keys, hD.sz⟩, fun q hq => ?_⟩
      · rcases List.mem_append.mp hq with h | h
        · have := hD.lt q h; omega
        · have := hlv q h; omega
      · rcases List.mem_append.mp hq with h | h
        · exact .inl h
        · right; have := lo q h; omega
    · have hs2 : spendE d ≠ 0 := hs
      rw [writeD, if_neg ho, if_neg hw2, if_pos hs2]
      simp -implicitDefEqProofs (disch := (first | omega | (simp only [lenB, lowB_len, numB_len, nsumB_len] <;> omega) | fail)) only [admQ, lenB, lowB_len, numB_len, nsumB_len, aFill, AK.cls, implies_true, if_true, if_false, seval, -List.reduceReplicate, beq_eq_false_iff_ne.mpr hs]
      exact ⟨k1, R, hD, fun q hq => .inl hq⟩
  · rw [writeE, if_neg ho, if_pos hw]
    simp -implicitDefEqProofs (disch := (first | omega | (simp only [lenB, lowB_len, numB_len, nsumB_len] <;> omega) | fail)) only [admQ, lenB, lowB_len, numB_len, nsumB_len, aFill, AK.cls, implies_true, if_true, if_false, seval, -List.reduceReplicate, beq_eq_false_iff_ne.mpr hw]
    exact hno _ (by rw [writeD, if_neg ho, if_pos hw])
end Go.Proofs.Ytoegmnnecanhfaa
end
section
/- The disk, walked: read, tampered with, new. -/
namespace Go.Proofs.Ytoegmnnecanhfaa
open Go Go.Adm
set_option linter.unusedSimpArgs false
set_option linter.unusedVariables false
set_option maxRecDepth 100000
theorem ans_dkread {m : Mem} {x : Nat} {W R : List Nat} {d : Dk} (h : Dsk m x W R d) {i : Nat} (hi : i < d.lasts.length) (hsz : (peekD d i).length ≤ 1000000) :
    Ans Try.prog 17 [.ptr x 0, .int .i64 i] m fun r m' => Kept W m m' ∧ Dsk m' x W R (readD d i) ∧ ∃ v, r = .tup [v, .int .i64 0] ∧ SPb m.length m' v (peekD d i) := by
  refine ans_ret mixed ok17 ?_
  simp -implicitDefEqProofs (disch := (first | omega | (simp only [lenB, lowB_len, numB_len, nsumB_len] <;> omega) | fail)) only [admQ, lenB, lowB_len, numB_len, nsumB_len, aFill, AK.cls, implies_true, if_true, if_false, seval, -List.reduceReplicate, c17, r17]
  refine (ans_dkthere h i).mono ?_
  rintro _ M ⟨rfl, hM⟩
  subst hM
  obtain ⟨pl, pm, pr, lv, es, ck, rfl, hn, h1, ⟨h2, h3, h4⟩, ⟨h5, h6, h7⟩, h8, h9⟩ := h.ex
  have hok : okI d i := ⟨by omega, by omega⟩
  simp only [List.nodup_cons, List.mem_cons, List.not_mem_nil, or_false, not_or] at hn
  have hir : i < d.reads.length := by omega
  have er : (d.reads.map (AV.int .i64))[i]? = some (.int .i64 d.reads[i]) := by rw [List.getElem?_map, List.getElem?_eq_getElem hir]; rfl
  have hsp : splice (d.reads.map (AV.int .i64)) i [.int .i64 (IntKind.i64.wrap (d.reads[i] + 1))] = (d.reads.set i (IntKind.i64.wrap (d.reads[i] + 1))).map (AV.int .i64) := splice_map hir
  have hmy : readD d i = { d with reads := d.reads.set i (IntKind.i64.wrap (d.reads[i] + 1)) } := by
    unfold readD
    rw [Int.toNat_natCast, List.getElem?_eq_getElem hir]; rfl
  have hlr : (d.reads.map (AV.int .i64)).length = d.lasts.length := by rw [List.length_map, h9]
  simp -implicitDefEqProofs (disch := (first | omega | (simp only [lenB, lowB_len, numB_len, nsumB_len] <;> omega) | fail)) only [admQ, lenB, lowB_len, numB_len, nsumB_len, aFill, AK.cls, implies_true, if_true, if_false, seval, -List.reduceReplicate, dec_t hok, Bool.not_true, rowOf_own h1, rowOf_own h8, er, h8, hsp, hlr]
  have kX := Kept.set1 M pr (.row ((d.reads.set i (IntKind.i64.wrap (d.reads[i] + 1))).map (AV.int .i64)) false)
  have p8 := own_set (own_lt h8) ((d.reads.set i (IntKind.i64.wrap (d.reads[i] + 1))).map (AV.int .i64))
  generalize M.set pr (.row ((d.reads.set i (IntKind.i64.wrap (d.reads[i] + 1))).map (AV.int .i64)) false) = A at kX p8
  have hV : ∀ {v : AV} {l : List B8}, RdV M [x, pl, pm, pr] R v l → RdV A [x, pl, pm, pr] R v l := fun hv => hv.kept kX (fun q hq h => (hv.2 q hq).2 (by simp only [List.mem_singleton] at h; simp [h])) (fun _ h => h)
  have p1 := kX.own h1 (by simp; omega)
  have p2 := kX.own h2 (by simp; omega)
  have p5 : A[pm]? = some (.map es ck) := by rw [kX.eq pm (lt_of_get h5) (by simp; omega)]; exact h5
  have hD : Dsk A x [x, pl, pm, pr] R (readD d i) := by
    rw [hmy]
    exact ⟨⟨pl, pm, pr, lv, es, ck, rfl, by simp [hn], p1, ⟨p2, h3, fun i l hl => let ⟨v, g1, g2⟩ := h4 i l hl; ⟨v, g1, hV g2⟩⟩, ⟨p5, h6, fun j k l hl => let ⟨v, c, g1, g2⟩ := h7 j k l hl; ⟨v, c, g1, hV g2⟩⟩, p8, by simp [h9]⟩, h.sub, fun q hq => Nat.lt_of_lt_of_le (h.lt q hq) kX.len, h.keys, h.sz⟩
  have hCR : CchR (RdV A [x, pl, pm, pr] R) es d.cache := ⟨h6, fun j k l hl => let ⟨v, c, g1, g2⟩ := h7 j k l hl; ⟨v, c, g1, hV g2⟩⟩
  obtain ⟨v, lk, hv⟩ := cch_look p5 hCR i
  have kW : Kept [x, pl, pm, pr] M A := kX.more (by simp)
  cases hg : cGet d.cache i with
  | some l =>
    have hpk : peekD d i = l := by rw [peekD, hg]; rfl
    rw [hg] at hv lk
    rw [hpk] at hsz ⊢
    simp -implicitDefEqProofs (disch := (first | omega | (simp only [lenB, lowB_len, numB_len, nsumB_len] <;> omega) | fail)) only [admQ, lenB, lowB_len, numB_len, nsumB_len, aFill, AK.cls, implies_true, if_true, if_false, seval, -List.reduceReplicate, rowOf_own p1, mapR, lk, Option.isSome_some]
    refine (ans_slclone hv.1 (by omega)).mono ?_
    rintro w m2 ⟨k2, g, lo⟩
    simp -implicitDefEqProofs (disch := (first | omega | (simp only [lenB, lowB_len, numB_len, nsumB_len] <;> omega) | fail)) only [admQ, lenB, lowB_len, numB_len, nsumB_len, aFill, AK.cls, implies_true, if_true, if_false, seval, -List.reduceReplicate]
    have hl := kX.len
    exact ⟨kW.trans k2.any, hD.kept0 k2, w, rfl, .gr g fun q hq => by have := lo q hq; omega⟩
  | none =>
    obtain ⟨v0, e0, hv0⟩ := h4 i _ (List.getElem?_eq_getElem hi)
    have hpk : peekD d i = d.lasts[i] := by rw [peekD, hg, Int.toNat_natCast, List.getElem?_eq_getElem hi]; rfl
    rw [hg] at lk
    rw [hpk] at hsz ⊢
    simp -implicitDefEqProofs (disch := (first | omega | (simp only [lenB, lowB_len, numB_len, nsumB_len] <;> omega) | fail)) only [admQ, lenB, lowB_len, numB_len, nsumB_len, aFill, AK.cls, implies_true, if_true, if_false, seval, -List.reduceReplicate, rowOf_own p1, mapR, lk, Option.isSome_none, rowOf_own p2, e0]
    refine (ans_slclone (hV hv0).1 (by omega)).mono ?_
    rintro w m2 ⟨k2, g, lo⟩
    simp -implicitDefEqProofs (disch := (first | omega | (simp only [lenB, lowB_len, numB_len, nsumB_len] <;> omega) | fail)) only [admQ, lenB, lowB_len, numB_len, nsumB_len, aFill, AK.cls, implies_true, if_true, if_false, seval, -List.reduceReplicate]
    have hl := kX.len
    exact ⟨kW.trans k2.any, hD.kept0 k2, w, rfl, .gr g fun q hq => by have := lo q hq; omega⟩
def dk0 (n : Nat) : Dk := ⟨List.replicate n [], [], false, 0, false, 0, List.replicate n 0⟩
theorem ans_dknew (n : Nat) (hn : 1 ≤ n ∧ n ≤ 4096) (m : Mem) : Ans Try.prog 14 [.int .i64 n] m fun r m' => Kept [] m m' ∧ ∃ x W R, r = .tup [.ptr x 0, .int .i64 0] ∧ Dsk m' x W R (dk0 n) ∧ ∀ q ∈ R, m.length ≤ q := by
  refine ans_ret mixed ok14 ?_
  simp -implicitDefEqProofs (disch := (first | omega | (simp only [lenB, lowB_len, numB_len, nsumB_len] <;> omega) | fail)) only [admQ, lenB, lowB_len, numB_len, nsumB_len, aFill, AK.cls, implies_true, if_true, if_false, seval, -List.reduceReplicate, c14, r14, dec_f (show ¬ (n : Int) < 1 by omega), dec_f (show ¬ (n : Int) > 4096 by omega), mapR, mkMp]
  have r1 : rep n [AV.nils] = List.replicate n .nils := by simp [rep]
  have r2 : rep n [AV.int .i64 0] = (List.replicate n (0 : Int)).map (.int .i64) := by simp [rep]
  refine ⟨.app _ _ _, m.length + 3, [m.length + 3, m.length, m.length + 1, m.length + 2], [m.length + 3, m.length, m.length + 1, m.length + 2], rfl, ⟨⟨m.length, m.length + 1, m.length + 2, List.replicate n .nils, [], 0, rfl, by simp, ?_, ⟨?_, by simp [dk0], fun i l hl => ?_⟩, ⟨?_, rfl, fun j k l hj => by simp [dk0] at hj⟩, ?_, by simp [dk0]⟩, fun q hq => hq, by simp, by simp [dk0], by simp only [dk0, List.length_replicate]; exact hn⟩, by simp⟩
  · rw [own_app_at]; simp [own, dk0]
  · rw [own_app_at0, r1]; rfl
  · simp only [dk0, List.getElem?_replicate] at hl
    split at hl
    · cases hl
      rename_i hi
      exact ⟨.nils, by rw [List.getElem?_replicate, if_pos hi], .nils _, by simp [blkOf]⟩
    · cases hl
  · rw [List.getElem?_append_right (by omega)]; simp
  · rw [own_app_at, r2]; rfl
end Go.Proofs.Ytoegmnnecanhfaa
end
section
/- Superblocks, written and read, over a disk and a crypt. -/
namespace Go.Proofs.Ytoegmnnecanhfaa
open Go Go.Adm
set_option linter.unusedSimpArgs false
set_option linter.unusedVariables false
set_option maxRecDepth 100000
/-- A text's digest, and what the crypt holds then. -/
def cySm (s : CyS) (b : List B8) : List B8 := match s with
  | .nm S T => nsumB T b
def cyTx (s : CyS) (b : List B8) : CyS := match s with
  | .nm S T => .nm S (addN b T)
def cyTk : CyS → Nat → Prop
  | .nm S T, k => T.length ≤ k
def cySmF : CyS → FuncId
  | .nm _ _ => 73
theorem cym_sum (s : CyS) : methodD Try.prog (cyT s) "Sum" = some (cySmF s) := by
  cases s with
  | nm S T =>
    show methodD Try.prog 39 "Sum" = some 73
    kernel_rfl
theorem cySm_len (s : CyS) (b : List B8) : (cySm s b).length = 32 := by
  cases s with
  | nm S T => exact nsumB_len T b
theorem ans_cysum {m : Mem} {x : Nat} {W R : List Nat} {s : CyS} {b : List B8} {y : AV} (hC : Cy m x W R s) (hb : RdB m y b) (hd : ∀ q ∈ blkOf y, q ∉ W) (hk : cyTk s 1000) (hl : b.length ≤ 100000) :
    Ans Try.prog (cySmF s) [.ptr x 0, y] m fun r m' => r = .agg (bys (cySm s b)) ∧ Kept W m m' ∧ Cy m' x W R (cyTx s b) := by
  cases s with
  | nm S T =>
    obtain ⟨hN, rfl⟩ := hC
    have hT : T.length ≤ 1000 := hk
    refine (ans_nsum hN hb hd (by omega) hl).mono ?_
    rintro _ m' ⟨rfl, k1, h1⟩
    exact ⟨rfl, k1, h1, rfl⟩
/-- A disk at xd and a crypt at xc: in the blocks B, apart. -/
def Vo (m : Mem) (xd xc : Nat) (B : List Nat) (d : Dk) (c : CyS) : Prop := ∃ Wd Rd Wc Rc, Dsk m xd Wd Rd d ∧ Cy m xc Wc Rc c ∧ (∀ q ∈ Rd, q ∉ Rc) ∧ B = Rd ++ Rc
theorem Vo.kept {m m' : Mem} {xd xc : Nat} {B X : List Nat} {d : Dk} {c : CyS} (h : Vo m xd xc B d c) (hk : Kept X m m') (hX : ∀ q ∈ B, q ∉ X) : Vo m' xd xc B d c := by
  obtain ⟨Wd, Rd, Wc, Rc, h1, h2, h3, rfl⟩ := h
  exact ⟨Wd, Rd, Wc, Rc, h1.kept hk (fun q hq => hX q (by simp [hq])), h2.kept hk (fun q hq => hX q (by simp [hq])), h3, rfl⟩
theorem Vo.kept0 {m m' : Mem} {xd xc : Nat} {B : List Nat} {d : Dk} {c : CyS} (h : Vo m xd xc B d c) (hk : Kept [] m m') : Vo m' xd xc B d c := h.kept hk (by simp)
theorem Vo.lt {m : Mem} {xd xc : Nat} {B : List Nat} {d : Dk} {c : CyS} (h : Vo m xd xc B d c) : ∀ q ∈ B, q < m.length := by
  obtain ⟨Wd, Rd, Wc, Rc, h1, h2, h3, rfl⟩ := h
  intro q hq
  rcases List.mem_append.mp hq with h | h
  · exact h1.lt q h
  · exact h2.lt q h
def suS (e : Int) (g : Geo) : Sec := ⟨1, e, 0, 0, putG g⟩
def suE (d : Dk) (c : CyS) (e : Int) (g : Geo) : Int := if errG g ≠ 0 then errG g else if errP (suS e g) ≠ 0 then errP (suS e g) else writeE d 0 (putL c (suS e g))
def suC (d : Dk) (c : CyS) (e : Int) (g : Geo) : CyS := if errG g ≠ 0 then c else if errP (suS e g) ≠ 0 then c else if writeE d 0 (putL c (suS e g)) ≠ 0 then putC c (suS e g) else cyTx (putC c (suS e g)) (putL c (suS e g))
def suD (d : Dk) (c : CyS) (e : Int) (g : Geo) : Dk := if errG g ≠ 0 then d else if errP (suS e g) ≠ 0 then d else writeD d 0 (putL c (suS e g))
def suM (d : Dk) (c : CyS) (e : Int) (g : Geo) : List B8 := if suE d c e g = 0 then cySm (putC c (suS e g)) (putL c (suS e g)) else List.replicate 32 0#8
theorem kept_mix {X Y : List Nat} {m m1 m2 : Mem} (h : Kept Y m m1) (h2 : Kept X m1 m2) (hx : ∀ q ∈ X, q ∈ Y ∨ m.length ≤ q) : Kept Y m m2 :=
  ⟨Nat.le_trans h.len h2.len, fun q h3 h4 => by rw [h2.eq q (h.lt h3) (fun h5 => (hx q h5).elim h4 (fun h6 => by omega)), h.eq q h3 h4]⟩
theorem ans_suwrite {m : Mem} {xd xc : Nat} {B : List Nat} {d : Dk} {c : CyS} (hV : Vo m xd xc B d c) (e : Int) (g : Geo) (hk : cyOk c 999) (ht : cyTk c 1000) :
    Ans Try.prog 16 [.ptr xd 0, .iface (cyT c) (.ptr xc 0), .int .i64 e, geoV g] m fun r m' => r = .tup [.agg (bys (suM d c e g)), .int .i64 (suE d c e g)] ∧ Kept B m m' ∧ ∃ B', Vo m' xd xc B' (suD d c e g) (suC d c e g) ∧ ∀ q ∈ B', q ∈ B ∨ m.length ≤ q := by
  refine ans_ret mixed ok16 ?_
  unfold geoV geoC
  obtain ⟨Wd, Rd, Wc, Rc, hD, hC, hap, rfl⟩ := hV
  have k0 := Kept.app [] m [.row [.int .i64 g.s, .int .i64 g.n, .int .i64 g.b] false, .row (bys (List.replicate 32 0#8)) false]
  have o0 : own (m ++ [.row [.int .i64 g.s, .int .i64 g.n, .int .i64 g.b] false, .row (bys (List.replicate 32 0#8)) false]) (m.length + 1) = some (bys (List.replicate 32 0#8)) := by rw [own_app_at]; rfl
  simp -implicitDefEqProofs (disch := (first | omega | (simp only [lenB, lowB_len, numB_len, nsumB_len] <;> omega) | fail)) only [admQ, lenB, lowB_len, numB_len, nsumB_len, aFill, AK.cls, implies_true, if_true, if_false, seval, -List.reduceReplicate, c16, r16]
  generalize m ++ [.row [.int .i64 g.s, .int .i64 g.n, .int .i64 g.b] false, .row (bys (List.replicate 32 0#8)) false] = A at *
  refine (ans_suput g A).mono ?_
  rintro _ m1 ⟨k1, w, rfl, rw1, bw1⟩
  have o1 := k1.own o0 (by simp)
  have K1 := k0.trans k1
  have lA := own_lt o0
  have l1 := k1.len
  have hz : (bys (List.replicate 32 0#8)).length = 32 := by simp
  have hsp : splice (bys (List.replicate 32 0#8)) 0 (bys (List.replicate 32 0#8)) = bys (List.replicate 32 0#8) := splice_whole rfl
  have htk : List.take 32 (bys (List.replicate 32 0#8)) = bys (List.replicate 32 0#8) := List.take_of_length_le (by simp)
  have KW : Kept [] m (m1.set (m.length + 1) (.row (bys (List.replicate 32 0#8)) false)) := K1.write (.inr (by omega)) _
  have fin : ∀ (M : Mem) (row : Blk) {Wd' Rd'' Wc' Rc'' : List Nat} {d' : Dk} {c' : CyS}, Kept (Rd ++ Rc) m M → Dsk M xd Wd' Rd'' d' → Cy M xc Wc' Rc'' c' → (∀ q ∈ Rd'', q ∉ Rc'') → (∀ q ∈ Rd'' ++ Rc'', q ∈ Rd ++ Rc ∨ m1.length ≤ q) →
      Kept (Rd ++ Rc) m (M.set (m.length + 1) row) ∧ ∃ B', Vo (M.set (m.length + 1) row) xd xc B' d' c' ∧ ∀ q ∈ B', q ∈ Rd ++ Rc ∨ m.length ≤ q := by
    intro M row Wd' Rd'' Wc' Rc'' d' c' hK h1 h2 h3 h4
    have hZ : ∀ q ∈ Rd'' ++ Rc'', q ∉ [m.length + 1] := fun q hq h => by
      simp only [List.mem_singleton] at h
      subst h
      rcases h4 _ hq with h | h
      · rcases List.mem_append.mp h with h | h
        · have := hD.lt _ h; omega
        · have := hC.lt _ h; omega
      · omega
    have kZ := Kept.set1 M (m.length + 1) row
    exact ⟨hK.write (.inr (by omega)) _, Rd'' ++ Rc'', ⟨Wd', Rd'', Wc', Rc'', h1.kept kZ (fun q hq => hZ q (by simp [hq])), h2.kept kZ (fun q hq => hZ q (by simp [hq])), h3, rfl⟩, fun q hq => (h4 q hq).imp id fun h => by omega⟩
  by_cases h1 : errG g = 0
  · have h1' : ¬ (errG g ≠ 0) := by simp [h1]
    have hok := (errG_ok g).mp h1
    have hpl : (putG g).length = 24 := by rw [putG, if_pos hok, geoB_len]
    rw [h1]
    simp -implicitDefEqProofs (disch := (first | omega | (simp only [lenB, lowB_len, numB_len, nsumB_len] <;> omega) | fail)) only [admQ, lenB, lowB_len, numB_len, nsumB_len, aFill, AK.cls, implies_true, if_true, if_false, seval, -List.reduceReplicate, (rd_one rw1).1, (rd_one rw1).2]
    have hbw : ∀ q ∈ blkOf w, q ∉ Wc := fun q hq h => by have := bw1 q hq; have := hC.lt q (hC.sub q h); omega
    refine (ans_scputS (s := suS e g) (hC.kept0 K1) (v := w) rw1 hbw (cyOk_mono hk (by omega)) (by simp only [suS]; omega)).mono ?_
    rintro _ m2 ⟨W', R', w2, k2, hC2, hR2, rfl, sp2, bw2⟩
    have hWcl : ∀ q ∈ Wc, q < m.length ∧ q ∈ Rc := fun q hq => ⟨hC.lt q (hC.sub q hq), hC.sub q hq⟩
    have hWdl : ∀ q ∈ Wd, q < m.length ∧ q ∈ Rd := fun q hq => ⟨hD.lt q (hD.sub q hq), hD.sub q hq⟩
    have hK1l := K1.len
    have o2 := k2.own o1 (fun h => by have := (hWcl _ h).1; omega)
    have hD2 : Dsk m2 xd Wd Rd d := (hD.kept0 K1).kept k2 (fun q hq h => hap q hq (hWcl q h).2)
    have K2 : Kept (Rd ++ Rc) m m2 := (K1.any).trans (k2.more (fun q hq _ => by simp [(hWcl q hq).2]))
    have hR2' : ∀ q ∈ Rd, q ∉ R' := fun q hq h => (hR2 q h).elim (hap q hq) (fun h2 => by have := hD.lt q hq; omega)
    have l2 := k2.len
    by_cases h2 : errP (suS e g) = 0
    · have h2' : ¬ (errP (suS e g) ≠ 0) := by simp [h2]
      have hok2 := (errP_ok _).mp h2
      have hlp := putL_len (c := c) hok2
      have hsp24 : (suS e g).p.length = 24 := hpl
      rw [h2]
      simp -implicitDefEqProofs (disch := (first | omega | (simp only [lenB, lowB_len, numB_len, nsumB_len] <;> omega) | fail)) only [admQ, lenB, lowB_len, numB_len, nsumB_len, aFill, AK.cls, implies_true, if_true, if_false, seval, -List.reduceReplicate]
      refine (ans_dkwrite hD2 sp2.rd (fun q hq h => by have := sp2.low q hq; have := (hWdl q h).1; omega) (by omega) 0).mono ?_
      rintro _ m3 ⟨rfl, k3, Rd', hD3, hRd3⟩
      have o3 := k3.own o2 (fun h => by have := (hWdl _ h).1; omega)
      have hC3 : Cy m3 xc W' R' (putC c (suS e g)) := hC2.kept k3 (fun q hq h => hR2' q (hWdl q h).2 hq)
      have rw3 : RdB m3 w2 (putL c (suS e g)) := rdb_ap sp2.rd k3 (fun q hq h => by have := sp2.low q hq; have := (hWdl q h).1; omega)
      have K3 : Kept (Rd ++ Rc) m m3 := K2.trans (k3.more (fun q hq _ => by simp [(hWdl q hq).2]))
      have l3 := k3.len
      have hap3 : ∀ q ∈ Rd', q ∉ R' := fun q hq h => (hRd3 q hq).elim (fun h1 => hR2' q h1 h) (fun h1 => by have := hC2.lt q h; omega)
      have hB3 : ∀ q ∈ Rd' ++ R', q ∈ Rd ++ Rc ∨ m.length ≤ q := fun q hq => by
        rcases List.mem_append.mp hq with h | h
        · rcases hRd3 q h with h | h
          · exact .inl (by simp [h])
          · right; omega
        · rcases hR2 q h with h | h
          · exact .inl (by simp [h])
          · right; omega
      by_cases h3 : writeE d 0 (putL c (suS e g)) = 0
      · have h3' : ¬ (writeE d 0 (putL c (suS e g)) ≠ 0) := by simp [h3]
        have hE : suE d c e g = 0 := by rw [suE, if_neg h1', if_neg h2', h3]
        rw [suM, if_pos hE, hE, suD, suC, if_neg h1', if_neg h1', if_neg h2', if_neg h2', if_neg h3', h3]
        have hm : methodD Try.prog (cyT c) "Sum" = some (cySmF (putC c (suS e g))) := by rw [← cyT_put c (suS e g)]; exact cym_sum _
        simp -implicitDefEqProofs (disch := (first | omega | (simp only [lenB, lowB_len, numB_len, nsumB_len] <;> omega) | fail)) only [admQ, lenB, lowB_len, numB_len, nsumB_len, aFill, AK.cls, implies_true, if_true, if_false, seval, -List.reduceReplicate, opW_invoke _ hm, opDW_invoke _ hm]
        have ht3 : cyTk (putC c (suS e g)) 1000 := by
          unfold putC; split
          · cases c <;> exact ht
          · exact ht
        refine (ans_cysum hC3 rw3 (fun q hq h => (bw2 q hq).2 (hC2.sub q h)) ht3 (by omega)).mono ?_
        rintro _ m4 ⟨rfl, k4, hC4⟩
        have hW' : ∀ q ∈ W', q ∈ R' := hC2.sub
        have o4 := k4.own o3 (fun h => (hR2 _ (hW' _ h)).elim (fun h1 => by have := hC.lt _ h1; omega) (fun h1 => by have := k1.len; have := K1.len; omega))
        have hsl := cySm_len (putC c (suS e g)) (putL c (suS e g))
        have hsp2 : splice (bys (List.replicate 32 0#8)) 0 (bys (cySm (putC c (suS e g)) (putL c (suS e g)))) = bys (cySm (putC c (suS e g)) (putL c (suS e g))) := splice_whole (by rw [hsl]; rfl)
        have htk2 : List.take 32 (bys (cySm (putC c (suS e g)) (putL c (suS e g)))) = bys (cySm (putC c (suS e g)) (putL c (suS e g))) := List.take_of_length_le (by rw [bys_len, hsl]; omega)
        have hbl : (bys (cySm (putC c (suS e g)) (putL c (suS e g)))).length = 32 := by rw [bys_len, hsl]
        generalize cySm (putC c (suS e g)) (putL c (suS e g)) = SM at *
        simp -implicitDefEqProofs (disch := (first | omega | (simp only [lenB, lowB_len, numB_len, nsumB_len] <;> omega) | fail)) only [admQ, lenB, lowB_len, numB_len, nsumB_len, aFill, AK.cls, implies_true, if_true, if_false, seval, -List.reduceReplicate, o4, hz, hsp2, hbl, rowOf_own (own_set (own_lt o4) _), htk2]
        have hapW : ∀ q ∈ Rd', q ∉ W' := fun q hq h => hap3 q hq (hW' q h)
        refine fin m4 _ (kept_mix K3 k4 (fun q hq => hB3 q (by simp [hW' q hq]))) (hD3.kept k4 hapW) hC4 hap3 (fun q hq => ?_)
        rcases List.mem_append.mp hq with h | h
        · exact (hRd3 q h).imp (fun h => by simp [h]) (fun h => by omega)
        · exact (hR2 q h).imp (fun h => by simp [h]) (fun h => by omega)
      · rw [suM, suE, suD, suC, if_neg h1', if_neg h1', if_neg h1', if_neg h2', if_neg h2', if_neg h2', if_pos h3, if_neg h3]
        simp -implicitDefEqProofs (disch := (first | omega | (simp only [lenB, lowB_len, numB_len, nsumB_len] <;> omega) | fail)) only [admQ, lenB, lowB_len, numB_len, nsumB_len, aFill, AK.cls, implies_true, if_true, if_false, seval, -List.reduceReplicate, beq_eq_false_iff_ne.mpr h3, o3, hz, hsp, rowOf_own (own_set (own_lt o3) _), htk]
        refine fin m3 _ K3 hD3 hC3 hap3 (fun q hq => ?_)
        rcases List.mem_append.mp hq with h | h
        · exact (hRd3 q h).imp (fun h => by simp [h]) (fun h => by omega)
        · exact (hR2 q h).imp (fun h => by simp [h]) (fun h => by omega)
    · have hno : ¬ okP (suS e g) := fun h => h2 ((errP_ok _).mpr h)
      have hcc : putC c (suS e g) = c := by rw [putC, if_neg hno]
      rw [hcc] at hC2
      rw [suM, suE, suD, suC, if_neg h1', if_neg h1', if_neg h1', if_pos h2, if_pos h2, if_pos h2, if_neg h2]
      simp -implicitDefEqProofs (disch := (first | omega | (simp only [lenB, lowB_len, numB_len, nsumB_len] <;> omega) | fail)) only [admQ, lenB, lowB_len, numB_len, nsumB_len, aFill, AK.cls, implies_true, if_true, if_false, seval, -List.reduceReplicate, beq_eq_false_iff_ne.mpr h2, o2, hz, hsp, rowOf_own (own_set (own_lt o2) _), htk]
      refine fin m2 _ K2 hD2 hC2 hR2' (fun q hq => ?_)
      rcases List.mem_append.mp hq with h | h
      · exact .inl (by simp [h])
      · exact (hR2 q h).imp (fun h => by simp [h]) (fun h => by omega)
  · rw [suM, suE, suD, suC, if_pos h1, if_pos h1, if_pos h1, if_neg h1]
    simp -implicitDefEqProofs (disch := (first | omega | (simp only [lenB, lowB_len, numB_len, nsumB_len] <;> omega) | fail)) only [admQ, lenB, lowB_len, numB_len, nsumB_len, aFill, AK.cls, implies_true, if_true, if_false, seval, -List.reduceReplicate, beq_eq_false_iff_ne.mpr h1, o1, hz, hsp, rowOf_own (own_set (own_lt o1) _), htk]
    exact ⟨K1.any.write (.inr (by omega)) _, Rd ++ Rc, ⟨Wd, Rd, Wc, Rc, hD.kept0 KW, hC.kept0 KW, hap, rfl⟩, fun q hq => .inl hq⟩
end Go.Proofs.Ytoegmnnecanhfaa
end
section
/- Superblocks, read. -/
namespace Go.Proofs.Ytoegmnnecanhfaa
open Go Go.Adm
set_option linter.unusedSimpArgs false
set_option linter.unusedVariables false
set_option maxRecDepth 100000
theorem cyOp_le {c : CyS} {e n : Int} {head b pl : List B8} (h : cyOp c e n head b = some pl) : pl.length ≤ b.length := by
  cases c with
  | nm S T =>
    simp only [cyOp] at h
    split at h
    · simp only [Option.some.injEq] at h; rw [← h]; simp
    · cases h
theorem getS_le (c : CyS) (k a : Int) (b : List B8) : (getS c k a b).p.length ≤ b.length := by
  unfold getS; split
  · cases h : cyOp c (nE b) (nN b) (headB k a.toNat) (b.drop 17) with
    | none => simp
    | some pl => have := cyOp_le h; simp at this ⊢; omega
  · simp [sec0]
def srOk (c : CyS) (b : List B8) : Prop := b.length ≠ 0 ∧ getE c 1 0 b = 0 ∧ getGE (getS c 1 0 b).p = 0 ∧ (getS c 1 0 b).n = 0
open Classical in
noncomputable def srE (c : CyS) (b : List B8) : Int := if b.length = 0 then 9 else if srOk c b then 0 else 14
open Classical in
noncomputable def srG (c : CyS) (b : List B8) : Geo := if srOk c b then getG (getS c 1 0 b).p else geo0
open Classical in
noncomputable def srM (c : CyS) (b : List B8) : List B8 := if srOk c b then cySm c b else List.replicate 32 0#8
open Classical in
noncomputable def srC (c : CyS) (b : List B8) : CyS := if srOk c b then cyTx c b else c
theorem ans_suread {m : Mem} {xd xc : Nat} {B : List Nat} {d : Dk} {c : CyS} (hV : Vo m xd xc B d c) (hk : cyOk c 1000) (ht : cyTk c 1000) (hl : (peekD d 0).length ≤ 100000) :
    Ans Try.prog 18 [.ptr xd 0, .iface (cyT c) (.ptr xc 0)] m fun r m' => r = .tup [geoV (srG c (peekD d 0)), .agg (bys (srM c (peekD d 0))), .int .i64 (srE c (peekD d 0))] ∧ Kept B m m' ∧ Vo m' xd xc B (readD d 0) (srC c (peekD d 0)) := by
  refine ans_ret mixed ok18 ?_
  obtain ⟨Wd, Rd, Wc, Rc, hD, hC, hap, rfl⟩ := hV
  have k0 := Kept.app [] m [.row [.int .i64 0, .int .i64 0, .int .i64 0] false, .row (bys (List.replicate 32 0#8)) false]
  have o0 : own (m ++ [.row [.int .i64 0, .int .i64 0, .int .i64 0] false, .row (bys (List.replicate 32 0#8)) false]) m.length = some [.int .i64 0, .int .i64 0, .int .i64 0] := by rw [own_app_at0]; rfl
  have s0 : own (m ++ [.row [.int .i64 0, .int .i64 0, .int .i64 0] false, .row (bys (List.replicate 32 0#8)) false]) (m.length + 1) = some (bys (List.replicate 32 0#8)) := by rw [own_app_at]; rfl
  simp -implicitDefEqProofs (disch := (first | omega | (simp only [lenB, lowB_len, numB_len, nsumB_len] <;> omega) | fail)) only [admQ, lenB, lowB_len, numB_len, nsumB_len, aFill, AK.cls, implies_true, if_true, if_false, seval, -List.reduceReplicate, c18, r18]
  generalize m ++ [.row [.int .i64 0, .int .i64 0, .int .i64 0] false, .row (bys (List.replicate 32 0#8)) false] = A at *
  have lA := own_lt s0
  have hsz := hD.sz
  have rdk : Ans Try.prog 17 [.ptr xd 0, .int .i64 0] A fun r m' => Kept Wd A m' ∧ Dsk m' xd Wd Rd (readD d 0) ∧ ∃ v, r = .tup [v, .int .i64 0] ∧ SPb A.length m' v (peekD d 0) :=
    ans_dkread (i := 0) (hD.kept0 k0) (by omega) (show (peekD d 0).length ≤ 1000000 by omega)
  refine rdk.mono ?_
  rintro _ m1 ⟨k1, hD1, v, rfl, sv⟩
  generalize hb : peekD d 0 = b at *
  have hWcl : ∀ q ∈ Wc, q < m.length ∧ q ∈ Rc := fun q hq => ⟨hC.lt q (hC.sub q hq), hC.sub q hq⟩
  have hWdl : ∀ q ∈ Wd, q < m.length ∧ q ∈ Rd := fun q hq => ⟨hD.lt q (hD.sub q hq), hD.sub q hq⟩
  have o1 := k1.own o0 (fun h => by have := (hWdl _ h).1; omega)
  have s1 := k1.own s0 (fun h => by have := (hWdl _ h).1; omega)
  have hC1 : Cy m1 xc Wc Rc c := (hC.kept0 k0).kept k1 (fun q hq h => hap q (hWdl q h).2 hq)
  have K1 : Kept (Rd ++ Rc) m m1 := k0.any.trans (k1.more (fun q hq _ => by simp [(hWdl q hq).2]))
  have l1 := k1.len
  have hz : (bys (List.replicate 32 0#8)).length = 32 := by simp
  have hsp : splice (bys (List.replicate 32 0#8)) 0 (bys (List.replicate 32 0#8)) = bys (List.replicate 32 0#8) := splice_whole rfl
  have htk : List.take 32 (bys (List.replicate 32 0#8)) = bys (List.replicate 32 0#8) := List.take_of_length_le (by simp)
  have fin : ∀ (M : Mem) (r1 r2 : Blk) {c' : CyS}, Kept (Rd ++ Rc) m M → Dsk M xd Wd Rd (readD d 0) → Cy M xc Wc Rc c' →
      Kept (Rd ++ Rc) m ((M.set m.length r1).set (m.length + 1) r2) ∧ Vo ((M.set m.length r1).set (m.length + 1) r2) xd xc (Rd ++ Rc) (readD d 0) c' := by
    intro M r1 r2 c' hK h1 h2
    have kZ : Kept [m.length, m.length + 1] M ((M.set m.length r1).set (m.length + 1) r2) := (Kept.set (X := [m.length, m.length + 1]) M m.length r1 (by simp)).trans (.set _ _ r2 (by simp))
    have hZ : ∀ q, q < m.length → q ∉ [m.length, m.length + 1] := fun q hq h => by simp only [List.mem_cons, List.not_mem_nil, or_false] at h; omega
    exact ⟨(hK.write (.inr (Nat.le_refl _)) _).write (.inr (by omega)) _, Wd, Rd, Wc, Rc, h1.kept kZ (fun q hq => hZ q (hD.lt q hq)), h2.kept kZ (fun q hq => hZ q (hC.lt q hq)), hap, rfl⟩
  have bad : ∀ (M : Mem) (er : Int), ¬ srOk c b → srE c b = er → Kept (Rd ++ Rc) m M → Dsk M xd Wd Rd (readD d 0) → Cy M xc Wc Rc c →
      AV.tup [.agg [.int .i64 0, .int .i64 0, .int .i64 0], .agg (bys (List.replicate 32 0#8)), .int .i64 er] = .tup [geoV (srG c b), .agg (bys (srM c b)), .int .i64 (srE c b)] ∧
      Kept (Rd ++ Rc) m ((M.set m.length (.row [AV.int .i64 0, .int .i64 0, .int .i64 0] false)).set (m.length + 1) (.row (bys (List.replicate 32 0#8)) false)) ∧ Vo ((M.set m.length (.row [AV.int .i64 0, .int .i64 0, .int .i64 0] false)).set (m.length + 1) (.row (bys (List.replicate 32 0#8)) false)) xd xc (Rd ++ Rc) (readD d 0) (srC c b) := by
    intro M er hno he hK h1 h2
    have e1 : srG c b = geo0 := if_neg hno
    have e2 : srM c b = List.replicate 32 0#8 := if_neg hno
    have e3 : srC c b = c := if_neg hno
    rw [e1, e2, e3, he]
    obtain ⟨f1, f2⟩ := fin M _ _ hK h1 h2
    exact ⟨rfl, f1, f2⟩
  by_cases h0 : b.length = 0
  · have hno : ¬ srOk c b := fun h => h.1 h0
    have he : srE c b = 9 := if_pos h0
    have t1 := own_set (own_lt o1) [AV.int .i64 0, .int .i64 0, .int .i64 0]
    have t2 := own_set_ne' s1 (show m.length ≠ m.length + 1 by omega) (.row [AV.int .i64 0, .int .i64 0, .int .i64 0] false)
    have t3 := own_set (own_lt t2) (bys (List.replicate 32 0#8))
    have t4 := own_set_ne' t1 (show m.length + 1 ≠ m.length by omega) (.row (bys (List.replicate 32 0#8)) false)
    simp -implicitDefEqProofs (disch := (first | omega | (simp only [lenB, lowB_len, numB_len, nsumB_len] <;> omega) | fail)) only [admQ, lenB, lowB_len, numB_len, nsumB_len, aFill, AK.cls, implies_true, if_true, if_false, seval, -List.reduceReplicate, sv.rd.len, h0, o1, t1, t2, hz, hsp, rowOf_own t3, rowOf_own t4, htk]
    exact bad m1 9 hno he K1 hD1 hC1
  · simp -implicitDefEqProofs (disch := (first | omega | (simp only [lenB, lowB_len, numB_len, nsumB_len] <;> omega) | fail)) only [admQ, lenB, lowB_len, numB_len, nsumB_len, aFill, AK.cls, implies_true, if_true, if_false, seval, -List.reduceReplicate, sv.rd.len, beq_eq_false_iff_ne.mpr (show ¬ (b.length : Int) = 0 by omega)]
    refine (ans_scget (k := 1) (a := 0) hC1 sv.rd hk (by omega)).mono ?_
    rintro _ m2 ⟨k2, w2, rfl, rw2, bw2⟩
    have hgl : (getS c 1 0 b).p.length ≤ 100000 := by
      have : (getS c 1 0 b).p.length ≤ b.length := getS_le _ _ _ _
      omega
    generalize hS : getS c 1 0 b = S at *
    unfold secV
    simp -implicitDefEqProofs (disch := (first | omega | (simp only [lenB, lowB_len, numB_len, nsumB_len] <;> omega) | fail)) only [admQ, lenB, lowB_len, numB_len, nsumB_len, aFill, AK.cls, implies_true, if_true, if_false, seval, -List.reduceReplicate, (rd_one rw2).1, (rd_one rw2).2]
    have k3 := Kept.app [] m2 [.row [.int .i64 S.k, .int .i64 S.e, .int .i64 S.n, .int .i64 S.a, w2] false]
    have q3 : own (m2 ++ [.row [.int .i64 S.k, .int .i64 S.e, .int .i64 S.n, .int .i64 S.a, w2] false]) m2.length = some [.int .i64 S.k, .int .i64 S.e, .int .i64 S.n, .int .i64 S.a, w2] := by rw [own_app_at0]; rfl
    generalize m2 ++ [.row [.int .i64 S.k, .int .i64 S.e, .int .i64 S.n, .int .i64 S.a, w2] false] = E at *
    refine (ans_suget (rw2.kept0 k3) hgl).mono ?_
    rintro _ m4 ⟨k4, rfl⟩
    unfold geoV geoC
    simp -implicitDefEqProofs (disch := (first | omega | (simp only [lenB, lowB_len, numB_len, nsumB_len] <;> omega) | fail)) only [admQ, lenB, lowB_len, numB_len, nsumB_len, aFill, AK.cls, implies_true, if_true, if_false, seval, -List.reduceReplicate]
    generalize hG : getG S.p = G at *
    generalize hE5 : m4 ++ _ = E5
    have k5 : Kept [] m4 E5 := by rw [← hE5]; exact .app _ _ _
    have g5 : own E5 m4.length = some [.int .i64 G.s, .int .i64 G.n, .int .i64 G.b] := by rw [← hE5, own_app_at0]; rfl
    clear hE5
    have k15 := ((k2.trans k3).trans k4).trans k5
    have q5 := (k4.trans k5).own q3 (by simp)
    have o5 := k15.own o1 (by simp)
    have s5 := k15.own s1 (by simp)
    have K5 : Kept (Rd ++ Rc) m E5 := K1.trans k15.any
    have hD5 := hD1.kept0 k15
    have hC5 := hC1.kept0 k15
    have t1 := own_set (own_lt o5) [AV.int .i64 0, .int .i64 0, .int .i64 0]
    have t2 := own_set_ne' s5 (show m.length ≠ m.length + 1 by omega) (.row [AV.int .i64 0, .int .i64 0, .int .i64 0] false)
    have t3 := own_set (own_lt t2) (bys (List.replicate 32 0#8))
    have t4 := own_set_ne' t1 (show m.length + 1 ≠ m.length by omega) (.row (bys (List.replicate 32 0#8)) false)
    have bad' : ¬ srOk c b → _ := fun hno => bad E5 14 hno (by rw [srE, if_neg h0, if_neg hno]) K5 hD5 hC5
    by_cases hE : getE c 1 0 b = 0
    · by_cases hF : getGE S.p = 0
      · by_cases hN : S.n = 0
        · have hok : srOk c b := ⟨h0, hE, by rw [hS]; exact hF, by rw [hS]; exact hN⟩
          have e1 : srG c b = G := by rw [srG, if_pos hok, hS, hG]
          have e2 : srM c b = cySm c b := if_pos hok
          have e3 : srC c b = cyTx c b := if_pos hok
          have e4 : srE c b = 0 := by rw [srE, if_neg h0, if_pos hok]
          rw [e1, e2, e3, e4]
          simp -implicitDefEqProofs (disch := (first | omega | (simp only [lenB, lowB_len, numB_len, nsumB_len] <;> omega) | fail)) only [admQ, lenB, lowB_len, numB_len, nsumB_len, aFill, AK.cls, implies_true, if_true, if_false, seval, -List.reduceReplicate, hE, hF, hN, Bool.not_true, rowOf_own q5, rowOf_own g5, opW_invoke _ (cym_sum c), opDW_invoke _ (cym_sum c)]
          refine (ans_cysum hC5 (sv.rd.kept0 k15) (fun q hq h => by have := sv.low q hq; have := (hWcl q h).1; omega) ht (by omega)).mono ?_
          rintro _ m6 ⟨rfl, k6, hC6⟩
          have hWn : ∀ q, m.length ≤ q → q ∉ Wc := fun q h1 h2 => by have := (hWcl q h2).1; omega
          have o6 := k6.own o5 (hWn _ (Nat.le_refl _))
          have s6 := k6.own s5 (hWn _ (by omega))
          have g6 := k6.own g5 (hWn _ (by have := own_lt o5; have := k2.len; have := k3.len; have := k4.len; omega))
          have K6 : Kept (Rd ++ Rc) m m6 := K5.trans (k6.more (fun q hq _ => by simp [(hWcl q hq).2]))
          have hD6 := hD5.kept k6 (fun q hq h => hap q hq (hWcl q h).2)
          have hsl := cySm_len c b
          have hsp2 : splice (bys (List.replicate 32 0#8)) 0 (bys (cySm c b)) = bys (cySm c b) := splice_whole (by rw [hsl]; rfl)
          have htk2 : List.take 32 (bys (cySm c b)) = bys (cySm c b) := List.take_of_length_le (by rw [bys_len, hsl]; omega)
          have hbl : (bys (cySm c b)).length = 32 := by rw [bys_len, hsl]
          have u1 := own_set (own_lt o6) [AV.int .i64 G.s, .int .i64 G.n, .int .i64 G.b]
          have u2 := own_set_ne' s6 (show m.length ≠ m.length + 1 by omega) (.row [AV.int .i64 G.s, .int .i64 G.n, .int .i64 G.b] false)
          have u3 := own_set (own_lt u2) (bys (cySm c b))
          have u4 := own_set_ne' u1 (show m.length + 1 ≠ m.length by omega) (.row (bys (cySm c b)) false)
          simp -implicitDefEqProofs (disch := (first | omega | (simp only [lenB, lowB_len, numB_len, nsumB_len] <;> omega) | fail)) only [admQ, lenB, lowB_len, numB_len, nsumB_len, aFill, AK.cls, implies_true, if_true, if_false, seval, -List.reduceReplicate, rowOf_own g6, rowOf_own g5, o6, u1, u2, hz, hsp2, hbl, rowOf_own u3, rowOf_own u4, htk2]
          exact fin m6 _ _ K6 hD6 hC6
        · have hno : ¬ srOk c b := fun h => hN (by rw [← hS]; exact h.2.2.2)
          simp -implicitDefEqProofs (disch := (first | omega | (simp only [lenB, lowB_len, numB_len, nsumB_len] <;> omega) | fail)) only [admQ, lenB, lowB_len, numB_len, nsumB_len, aFill, AK.cls, implies_true, if_true, if_false, seval, -List.reduceReplicate, hE, hF, beq_eq_false_iff_ne.mpr hN, Bool.not_false, Bool.not_true, rowOf_own q5, o5, t1, t2, hz, hsp, rowOf_own t3, rowOf_own t4, htk]
          exact bad' hno
      · have hno : ¬ srOk c b := fun h => hF (by rw [← hS]; exact h.2.2.1)
        simp -implicitDefEqProofs (disch := (first | omega | (simp only [lenB, lowB_len, numB_len, nsumB_len] <;> omega) | fail)) only [admQ, lenB, lowB_len, numB_len, nsumB_len, aFill, AK.cls, implies_true, if_true, if_false, seval, -List.reduceReplicate, hE, beq_eq_false_iff_ne.mpr hF, Bool.not_false, Bool.not_true, rowOf_own q5, o5, t1, t2, hz, hsp, rowOf_own t3, rowOf_own t4, htk]
        exact bad' hno
    · have hno : ¬ srOk c b := fun h => hE h.2.1
      simp -implicitDefEqProofs (disch := (first | omega | (simp only [lenB, lowB_len, numB_len, nsumB_len] <;> omega) | fail)) only [admQ, lenB, lowB_len, numB_len, nsumB_len, aFill, AK.cls, implies_true, if_true, if_false, seval, -List.reduceReplicate, beq_eq_false_iff_ne.mpr hE, Bool.not_false, rowOf_own q5, o5, t1, t2, hz, hsp, rowOf_own t3, rowOf_own t4, htk]
      exact bad' hno
end Go.Proofs.Ytoegmnnecanhfaa
end
section
/- Superblocks over names: what was written is read; the known example. -/
namespace Go.Proofs.Ytoegmnnecanhfaa
open Go Go.Adm
set_option linter.unusedSimpArgs false
set_option linter.unusedVariables false
set_option maxRecDepth 100000
/-- A disk whose power does not fail. -/
def Calm (d : Dk) : Prop := d.off = false ∧ d.armed = false ∧ 1 ≤ d.lasts.length ∧ (d.cache.map (·.1)).Nodup
theorem calm_write {d : Dk} (h : Calm d) {b : List B8} (hb : b.length ≤ 1024) : writeE d 0 b = 0 ∧ Calm (writeD d 0 b) ∧ peekD (writeD d 0 b) 0 = b ∧ (writeD d 0 b).lasts = d.lasts := by
  obtain ⟨h1, h2, h3, h4⟩ := h
  have hi : okI d 0 := ⟨by omega, by omega⟩
  have hw : wrongD d 0 b = 0 := by rw [wrongD, if_neg (by simpa using hi), if_neg (by omega)]
  have hs : spendE d = 0 := by rw [spendE, if_neg (by simp [h1]), if_neg (by simp [h2])]
  have hd : spendD d = { d with left := IntKind.i64.wrap (d.left - 1) } := by rw [spendD, if_neg (by simp [h1]), if_neg (by simp [h2])]
  have hD : writeD d 0 b = { spendD d with cache := cPut d.cache 0 b, writes := IntKind.i64.wrap (d.writes + 1) } := by rw [writeD, if_neg (by simp [h1]), if_neg (by simp [hw]), if_neg (by simp [hs])]
  refine ⟨by rw [writeE, if_neg (by simp [h1]), if_neg (by simp [hw]), hs], ?_, ?_, ?_⟩
  · rw [hD, hd]; exact ⟨h1, h2, h3, cPut_keys h4⟩
  · rw [hD, peekD]
    simp only
    rw [cGet_put h4]; rfl
  · rw [hD, hd]
theorem calm_read {d : Dk} (h : Calm d) (i : Int) : Calm (readD d i) ∧ peekD (readD d i) 0 = peekD d 0 := ⟨h, rfl⟩
theorem calm0 (n : Nat) (h : 1 ≤ n) : Calm (dk0 n) := ⟨rfl, rfl, by simpa [dk0] using h, by simp [dk0]⟩
theorem sup_len (c : CyS) (e : Int) (g : Geo) : (putL c (suS e g)).length ≤ 1024 := by
  by_cases h : okP (suS e g)
  · rw [putL_len h]; have := h.2.2; omega
  · rw [putL, if_neg h]; simp
theorem addN_again {α : Type} [DecidableEq α] (b : α) (T : List α) : addN b (addN b T) = addN b T ∧ posN b (addN b T) = posN b T := by
  obtain ⟨h1, h2⟩ := addN_in (fidx_addself b T)
  exact ⟨h1, by rw [h2]; have := (posN_le b T).1; omega⟩
/-- Over a calm disk: what is written, and is it. -/
def suOk (e : Int) (g : Geo) : Prop := okG g ∧ okP (suS e g)
instance (e : Int) (g : Geo) : Decidable (suOk e g) := by unfold suOk; infer_instance
theorem su_calm {d : Dk} (h : Calm d) (c : CyS) (e : Int) (g : Geo) : (suE d c e g = 0 ↔ suOk e g) ∧ Calm (suD d c e g) := by
  obtain ⟨w1, w2, -, -⟩ := calm_write h (sup_len c e g)
  unfold suE suD suOk
  by_cases h1 : errG g = 0
  · have h1' : ¬ (errG g ≠ 0) := by simp [h1]
    rw [if_neg h1', if_neg h1']
    by_cases h2 : errP (suS e g) = 0
    · have h2' : ¬ (errP (suS e g) ≠ 0) := by simp [h2]
      rw [if_neg h2', if_neg h2', w1]
      exact ⟨⟨fun _ => ⟨(errG_ok g).mp h1, (errP_ok _).mp h2⟩, fun _ => rfl⟩, w2⟩
    · rw [if_pos h2, if_pos h2]
      exact ⟨⟨fun h => absurd h h2, fun h => absurd ((errP_ok _).mpr h.2) h2⟩, h⟩
  · rw [if_pos h1, if_pos h1]
    exact ⟨⟨fun h => absurd h h1, fun h => absurd ((errG_ok g).mpr h.1) h1⟩, h⟩
theorem su_back {d : Dk} (h : Calm d) {S : List Sd} {T : List (List B8)} {e : Int} {g : Geo} (hk : suOk e g) :
    suD d (.nm S T) e g = writeD d 0 (putL (.nm S T) (suS e g)) ∧ peekD (suD d (.nm S T) e g) 0 = putL (.nm S T) (suS e g) ∧ suC d (.nm S T) e g = .nm (putS S (suS e g)) (addN (putL (.nm S T) (suS e g)) T) ∧ suM d (.nm S T) e g = nsumB T (putL (.nm S T) (suS e g)) := by
  obtain ⟨w1, w2, w3, -⟩ := calm_write h (sup_len (.nm S T) e g)
  have h1' : ¬ (errG g ≠ 0) := by simp [(errG_ok g).mpr hk.1]
  have h2' : ¬ (errP (suS e g) ≠ 0) := by simp [(errP_ok _).mpr hk.2]
  have h3' : ¬ (writeE d 0 (putL (.nm S T) (suS e g)) ≠ 0) := by simp [w1]
  have hD : suD d (.nm S T) e g = writeD d 0 (putL (.nm S T) (suS e g)) := by rw [suD, if_neg h1', if_neg h2']
  refine ⟨hD, by rw [hD]; exact w3, ?_, ?_⟩
  · rw [suC, if_neg h1', if_neg h2', if_neg h3', putC_nm]; rfl
  · rw [suM, if_pos ((su_calm h _ e g).1.mpr hk), putC_nm]; rfl
/-- Bytes of a superblock that was sealed are read as it was. -/
theorem sr_back {S S2 : List Sd} {T T2 : List (List B8)} {e : Int} {g : Geo} (hk : suOk e g) (hs : cyHas (.nm S T) (.nm S2 T2) (secD (suS e g))) :
    srOk (.nm S2 T2) (putL (.nm S T) (suS e g)) ∧ srG (.nm S2 T2) (putL (.nm S T) (suS e g)) = g ∧ srM (.nm S2 T2) (putL (.nm S T) (suS e g)) = nsumB T2 (putL (.nm S T) (suS e g)) ∧ srC (.nm S2 T2) (putL (.nm S T) (suS e g)) = .nm S2 (addN (putL (.nm S T) (suS e g)) T2) ∧ srE (.nm S2 T2) (putL (.nm S T) (suS e g)) = 0 := by
  obtain ⟨p1, p2⟩ := get_put (c := .nm S T) hk.2 hs
  obtain ⟨q1, q2⟩ := get_putG hk.1
  have hl := putL_len (c := .nm S T) hk.2
  have p1' : getE (.nm S2 T2) 1 0 (putL (.nm S T) (suS e g)) = 0 := p1
  have p2' : getS (.nm S2 T2) 1 0 (putL (.nm S T) (suS e g)) = suS e g := p2
  have hok : srOk (.nm S2 T2) (putL (.nm S T) (suS e g)) := ⟨by omega, p1', by rw [p2']; exact q1, by rw [p2']; rfl⟩
  exact ⟨hok, by rw [srG, if_pos hok, p2']; exact q2, by rw [srM, if_pos hok]; rfl, by rw [srC, if_pos hok]; rfl, by rw [srE, if_neg hok.1, if_pos hok]⟩
theorem srM_len (c : CyS) (b : List B8) : (srM c b).length = 32 := by
  unfold srM; split
  · exact cySm_len c b
  · simp
theorem suM_len (d : Dk) (c : CyS) (e : Int) (g : Geo) : (suM d c e g).length = 32 := by
  unfold suM; split
  · exact cySm_len _ _
  · simp
/-- A digest stored over noughts. -/
theorem sm_facts {l : List B8} (h : l.length = 32) : (bys l).length = 32 ∧ splice (bys (List.replicate 32 0#8)) 0 (bys l) = bys l ∧ List.take 32 (bys l) = bys l :=
  ⟨by rw [bys_len, h], splice_whole (by rw [h]; rfl), List.take_of_length_le (by rw [bys_len, h]; omega)⟩
def smallG : Geo := ⟨18, 32, 4⟩
theorem ans_small (m : Mem) : Ans Try.prog 22 [] m fun r m' => r = geoV smallG ∧ Kept [] m m' := by
  refine ans_ret mixed ok22 ?_
  have h0 : own (m ++ [.row [.int .i64 0, .int .i64 0, .int .i64 0] false]) m.length = some [.int .i64 0, .int .i64 0, .int .i64 0] := by rw [own_app_at0]; rfl
  simp -implicitDefEqProofs (disch := (first | omega | (simp only [lenB, lowB_len, numB_len, nsumB_len] <;> omega) | fail)) only [admQ, lenB, lowB_len, numB_len, nsumB_len, aFill, AK.cls, implies_true, if_true, if_false, seval, -List.reduceReplicate, c22, r22]
  exact ⟨rfl, .app _ _ _⟩
theorem ans_suknown (m : Mem) : Ans Try.prog 6 [] m fun r m' => r = .bool true ∧ Kept [] m m' := by
  refine ans_ret mixed ok6 ?_
  simp -implicitDefEqProofs (disch := (first | omega | (simp only [lenB, lowB_len, numB_len, nsumB_len] <;> omega) | fail)) only [admQ, lenB, lowB_len, numB_len, nsumB_len, aFill, AK.cls, implies_true, if_true, if_false, seval, -List.reduceReplicate, c6, r6]
  have hnew := ans_dknew 5 (by omega) m
  refine Ans.mono hnew ?_
  rintro _ m1 ⟨k1, xd, Wd, Rd, rfl, hD, hRd⟩
  simp -implicitDefEqProofs (disch := (first | omega | (simp only [lenB, lowB_len, numB_len, nsumB_len] <;> omega) | fail)) only [admQ, lenB, lowB_len, numB_len, nsumB_len, aFill, AK.cls, implies_true, if_true, if_false, seval, -List.reduceReplicate]
  refine (ans_nnew m1).mono ?_
  rintro _ m2 ⟨xc, Wc, rfl, k2, hN, hWc⟩
  simp -implicitDefEqProofs (disch := (first | omega | (simp only [lenB, lowB_len, numB_len, nsumB_len] <;> omega) | fail)) only [admQ, lenB, lowB_len, numB_len, nsumB_len, aFill, AK.cls, implies_true, if_true, if_false, seval, -List.reduceReplicate]
  have hV : Vo m2 xd xc (Rd ++ Wc) (dk0 5) (.nm [] []) := ⟨Wd, Rd, Wc, Wc, hD.kept0 k2, ⟨hN, rfl⟩, fun q h1 h2 => by have := hD.lt q h1; have := hWc q h2; omega, rfl⟩
  have hz : (bys (List.replicate 32 0#8)).length = 32 := by simp
  have hB : ∀ q ∈ Rd ++ Wc, m.length ≤ q := fun q hq => by
    have := k1.len
    rcases List.mem_append.mp hq with h | h
    · exact hRd q h
    · have := hWc q h; omega
  have K2 := k1.trans k2
  have hp0 : peekD (dk0 5) 0 = [] := rfl
  generalize hBe : Rd ++ Wc = B at hV hB
  refine (ans_suread hV (show 0 ≤ 1000 by omega) (show 0 ≤ 1000 by omega) (by rw [hp0]; simp)).mono ?_
  rintro _ m3 ⟨rfl, k3, hV3⟩
  have hno : ¬ srOk (.nm [] []) [] := fun h => h.1 rfl
  rw [hp0] at hV3 ⊢
  have e9 : srE (.nm [] []) [] = 9 := if_pos rfl
  have ec : srC (.nm [] []) [] = .nm [] [] := if_neg hno
  rw [ec] at hV3
  rw [e9]
  obtain ⟨f1, f2, f3⟩ := sm_facts (srM_len (.nm [] []) [])
  generalize srM (.nm [] []) [] = M0 at *
  generalize srG (.nm [] []) [] = G0 at *
  unfold geoV geoC
  simp -implicitDefEqProofs (disch := (first | omega | (simp only [lenB, lowB_len, numB_len, nsumB_len] <;> omega) | fail)) only [admQ, lenB, lowB_len, numB_len, nsumB_len, aFill, AK.cls, implies_true, if_true, if_false, seval, -List.reduceReplicate, hz, f1, f2]
  have K3 : Kept [] m m3 := K2.upon k3 hB
  have hV4 := hV3.kept0 (.app [] m3 [.row [.int .i64 G0.s, .int .i64 G0.n, .int .i64 G0.b] false, .row (bys M0) false])
  have K4 := K3.more_app [.row [.int .i64 G0.s, .int .i64 G0.n, .int .i64 G0.b] false, .row (bys M0) false]
  generalize m3 ++ [.row [.int .i64 G0.s, .int .i64 G0.n, .int .i64 G0.b] false, .row (bys M0) false] = m4 at *
  refine (ans_small m4).mono ?_
  rintro _ m5 ⟨rfl, k5⟩
  have K5 := K4.trans k5
  unfold geoV
  simp -implicitDefEqProofs (disch := (first | omega | (simp only [lenB, lowB_len, numB_len, nsumB_len] <;> omega) | fail)) only [admQ, lenB, lowB_len, numB_len, nsumB_len, aFill, AK.cls, implies_true, if_true, if_false, seval, -List.reduceReplicate]
  refine (ans_suwrite (hV4.kept0 k5) 1 smallG (show 0 ≤ 999 by omega) (show 0 ≤ 1000 by omega)).mono ?_
  rintro _ m6 ⟨rfl, k6, B6, hV6, hB6⟩
  have hcalm : Calm (readD (dk0 5) 0) := (calm_read (calm0 5 (by omega)) 0).1
  have hok : suOk 1 smallG := by decide
  have hE0 := (su_calm hcalm (.nm [] []) 1 smallG).1.mpr hok
  obtain ⟨b1, b2, b3, b4⟩ := su_back hcalm (S := []) (T := []) hok
  have hcm := (su_calm hcalm (.nm [] []) 1 smallG).2
  obtain ⟨g1, g2, g3⟩ := sm_facts (suM_len (readD (dk0 5) 0) (.nm [] []) 1 smallG)
  rw [hE0]
  rw [b3] at hV6
  obtain ⟨r1, r2, r3, r4, r5⟩ := sr_back (S := []) (S2 := putS [] (suS 1 smallG)) (T := []) (T2 := addN (putL (.nm [] []) (suS 1 smallG)) []) hok (by have := putC_ok (c := .nm [] []) hok.2; rw [putC_nm] at this; exact this)
  have hsm : suM (readD (dk0 5) 0) (.nm [] []) 1 smallG = nsumB (addN (putL (.nm [] []) (suS 1 smallG)) []) (putL (.nm [] []) (suS 1 smallG)) := by
    rw [b4, nsumB, nsumB, (addN_again _ _).2]
  have hpl := sup_len (.nm [] []) 1 smallG
  have hsl := putS_len [] (suS 1 smallG)
  have htl := addN_len (putL (.nm [] []) (suS 1 smallG)) []
  rw [hsm] at g1 g2 g3 ⊢
  generalize nsumB (addN (putL (.nm [] []) (suS 1 smallG)) []) (putL (.nm [] []) (suS 1 smallG)) = SM at *
  generalize suD (readD (dk0 5) 0) (.nm [] []) 1 smallG = D6 at *
  simp -implicitDefEqProofs (disch := (first | omega | (simp only [lenB, lowB_len, numB_len, nsumB_len] <;> omega) | fail)) only [admQ, lenB, lowB_len, numB_len, nsumB_len, aFill, AK.cls, implies_true, if_true, if_false, seval, -List.reduceReplicate, hz, g1, g2]
  have K6 : Kept [] m m6 := K5.upon k6 hB
  have hB6' : ∀ q ∈ B6, m.length ≤ q := fun q hq => (hB6 q hq).elim (hB q) (fun h => by have := K5.len; omega)
  have k7 := Kept.app [] m6 [.row (bys SM) false]
  have s7 : own (m6 ++ [.row (bys SM) false]) m6.length = some (bys SM) := by rw [own_app_at0]; rfl
  generalize m6 ++ [.row (bys SM) false] = m7 at *
  have cT : ∀ (S : List Sd) (T : List (List B8)) (z : Nat), AV.iface 39 (.ptr z 0) = .iface (cyT (.nm S T)) (.ptr z 0) := fun _ _ _ => rfl
  rw [cT (putS [] (suS 1 smallG)) (addN (putL (.nm [] []) (suS 1 smallG)) [])]
  refine (ans_suread (hV6.kept0 k7) (show (putS [] (suS 1 smallG)).length ≤ 1000 by simp at hsl; omega) (show (addN (putL (.nm [] []) (suS 1 smallG)) []).length ≤ 1000 by simp at htl; omega) (by rw [b2]; omega)).mono ?_
  rintro _ m8 ⟨rfl, k8, hV8⟩
  rw [b2, r2, r3, r5]
  have hq6 : ∀ q, q ∈ B6 → q < m6.length := hV6.lt
  have s8 := k8.own s7 (fun h => by have := hq6 _ h; omega)
  have K8 : Kept [] m m8 := (K6.trans k7).upon k8 hB6'
  unfold geoV geoC
  simp -implicitDefEqProofs (disch := (first | omega | (simp only [lenB, lowB_len, numB_len, nsumB_len] <;> omega) | fail)) only [admQ, lenB, lowB_len, numB_len, nsumB_len, aFill, AK.cls, implies_true, if_true, if_false, seval, -List.reduceReplicate, hz, g1, g2]
  have k9 := Kept.app [] m8 [.row [.int .i64 smallG.s, .int .i64 smallG.n, .int .i64 smallG.b] false, .row (bys SM) false]
  have o9 : own (m8 ++ [.row [.int .i64 smallG.s, .int .i64 smallG.n, .int .i64 smallG.b] false, .row (bys SM) false]) m8.length = some [.int .i64 smallG.s, .int .i64 smallG.n, .int .i64 smallG.b] := by rw [own_app_at0]; rfl
  have p9 : own (m8 ++ [.row [.int .i64 smallG.s, .int .i64 smallG.n, .int .i64 smallG.b] false, .row (bys SM) false]) (m8.length + 1) = some (bys SM) := by rw [own_app_at]; rfl
  generalize m8 ++ [.row [.int .i64 smallG.s, .int .i64 smallG.n, .int .i64 smallG.b] false, .row (bys SM) false] = m9 at *
  have s9 := k9.own s8 (by simp)
  refine (ans_small m9).mono ?_
  rintro _ m10 ⟨rfl, k10⟩
  have o10 := k10.own o9 (by simp)
  have p10 := k10.own p9 (by simp)
  have s10 := k10.own s9 (by simp)
  have hSM : SM.length = 32 := by rw [bys_len] at g1; exact g1
  unfold geoV geoC
  simp -implicitDefEqProofs (disch := (first | omega | (simp only [lenB, lowB_len, numB_len, nsumB_len] <;> omega) | fail)) only [admQ, lenB, lowB_len, numB_len, nsumB_len, aFill, AK.cls, implies_true, if_true, if_false, seval, -List.reduceReplicate, rowOf_own o9, rowOf_own p9, rowOf_own s9, rowOf_own o10, rowOf_own p10, rowOf_own s10, g3, hz, g1, aEq_bys SM SM hSM hSM, beq_self_eq_true]
  exact ((K8.trans k9).trans k10)
end Go.Proofs.Ytoegmnnecanhfaa
end
section
/- Sectors, as the document has them: numbers as bytes. -/
namespace Go.Proofs.Ytoegmnnecanhfaa
open Go Go.Adm
set_option linter.unusedSimpArgs false
set_option linter.unusedVariables false
set_option maxRecDepth 100000
theorem ans_r9int {m : Mem} {x : AV} {l : List B8} (v : Nat) (hv : v < 4611686018427387904) (hx : RdB m x l) (hl : l.length ≤ 900000000) : Ans Try.prog 26 [x, .int .i64 v] m fun r m' => Kept [] m m' ∧ GrB m.length m' r (l ++ numB v) := by
  refine ans_ret mixed ok26 ?_
  simp -implicitDefEqProofs (disch := (first | omega | (simp only [lenB, lowB_len, numB_len, nsumB_len] <;> omega) | fail)) only [admQ, lenB, lowB_len, numB_len, nsumB_len, aFill, AK.cls, implies_true, if_true, if_false, seval, -List.reduceReplicate, c26, r26]
  have k0 := Kept.app [] m [Blk.row [] false]
  have g0 : GrB m.length (m ++ [Blk.row [] false]) (.sl m.length 0 0 0 0) [] := .zero (by rw [own_app_at0]; rfl)
  have hx0 := hx.app [Blk.row [] false]
  generalize m ++ [Blk.row [] false] = A at *
  obtain ⟨x1, m1, e1, g1, k1, a1⟩ := g0.pushs hx0 (by simp; omega) k0.len
  refine someW_eq e1 ?_
  simp -implicitDefEqProofs (disch := (first | omega | (simp only [lenB, lowB_len, numB_len, nsumB_len] <;> omega) | fail)) only [admQ, lenB, lowB_len, numB_len, nsumB_len, aFill, AK.cls, implies_true, if_true, if_false, seval, -List.reduceReplicate, nw64 (show v < 18446744073709551616 by omega)]
  have K1 := a1 _ _ k0 (Nat.le_refl _)
  rw [List.nil_append] at g1
  refine LoopW.on (fun t : Nat × AV => [(5, t.2), (6, .int .u64 v), (7, .int .i64 (7 - (t.1 : Int)))]) (fun t => 8 - t.1)
    (fun t M => t.1 ≤ 8 ∧ Kept [] m M ∧ GrB m.length M t.2 (l ++ tab t.1 (fun i => byV v (7 - i)))) ?_ (0, x1) _ _ rfl ⟨by simp, K1, by simpa [tab] using g1⟩
  rintro ⟨k, x⟩ M X ⟨hk, kk, g⟩ hX
  change GrB m.length M x (l ++ tab k (fun i => byV v (7 - i))) at g
  simp only at hk kk
  by_cases hlt : k < 8
  · rw [show (7 - (k : Int)) = ((7 - k : Nat) : Int) by omega]
    have hw : IntKind.u8.wrap ((v >>> (8 * (7 - k)) : Nat) : Int) = ((byV v (7 - k)).toNat : Int) := wrap_u8 _
    have hmin : Nat.min (8 * (7 - k)) 64 = 8 * (7 - k) := Nat.min_eq_left (by omega)
    have hfd : ((v : Nat) : Int).fdiv (2 ^ Nat.min (8 * (7 - k)) IntKind.u64.bits) = ((v >>> (8 * (7 - k)) : Nat) : Int) := fdiv_nat (by omega)
    simp -implicitDefEqProofs (disch := (first | omega | (simp only [lenB, lowB_len, numB_len, nsumB_len] <;> omega) | fail)) only [admQ, lenB, lowB_len, numB_len, nsumB_len, aFill, AK.cls, implies_true, if_true, if_false, seval, -List.reduceReplicate, hfd, hw, @nw64]
    obtain ⟨x3, m3, e3, g3, k3, a3⟩ := g.push (byV v (7 - k)) (by simp [tab_len]; omega) kk.len
    refine someW_eq e3 ?_
    simp -implicitDefEqProofs (disch := (first | omega | (simp only [lenB, lowB_len, numB_len, nsumB_len] <;> omega) | fail)) only [admQ, lenB, lowB_len, numB_len, nsumB_len, aFill, AK.cls, implies_true, if_true, if_false, seval, -List.reduceReplicate]
    rw [show ((7 - k : Nat) : Int) - 1 = 7 - ((k + 1 : Nat) : Int) by omega]
    refine hX (k + 1, x3) _ _ rfl (by simp only; omega) ⟨by simp only; omega, a3 _ _ kk (Nat.le_refl _), ?_⟩
    show GrB m.length m3 x3 (l ++ tab (k + 1) _)
    rw [tab_succ, ← List.append_assoc]; exact g3
  · obtain rfl : k = 8 := by omega
    simp -implicitDefEqProofs (disch := (first | omega | (simp only [lenB, lowB_len, numB_len, nsumB_len] <;> omega) | fail)) only [admQ, lenB, lowB_len, numB_len, nsumB_len, aFill, AK.cls, implies_true, if_true, if_false, seval, -List.reduceReplicate]
    exact ⟨kk, g⟩
/-- A document's reader at r: it has read j of the bytes l. -/
def Rd9 (m : Mem) (r : Nat) (l : List B8) (j : Nat) : Prop := ∃ v, own m r = some [v, .int .i64 j, .bool false] ∧ RdB m v l ∧ (∀ b ∈ blkOf v, b < r) ∧ j ≤ l.length ∧ l.length ≤ 1000000000
theorem ans_r9read {m : Mem} {x : AV} {l : List B8} (hx : RdB m x l) (hb : l.length ≤ 900000000) : Ans Try.prog 30 [x] m fun r m' => Kept [] m m' ∧ ∃ p, r = .ptr p 0 ∧ m.length ≤ p ∧ Rd9 m' p l 0 := by
  refine ans_ret mixed ok30 ?_
  simp -implicitDefEqProofs (disch := (first | omega | (simp only [lenB, lowB_len, numB_len, nsumB_len] <;> omega) | fail)) only [admQ, lenB, lowB_len, numB_len, nsumB_len, aFill, AK.cls, implies_true, if_true, if_false, seval, -List.reduceReplicate, c30, r30]
  have k0 := Kept.app [] m [Blk.row [] false]
  have g0 : GrB m.length (m ++ [Blk.row [] false]) (.sl m.length 0 0 0 0) [] := .zero (by rw [own_app_at0]; rfl)
  have hx0 := hx.app [Blk.row [] false]
  generalize m ++ [Blk.row [] false] = A at *
  obtain ⟨x1, m1, e1, g1, k1, a1⟩ := g0.pushs hx0 (by simp; omega) k0.len
  refine someW_eq e1 ?_
  have K1 := a1 _ _ k0 (Nat.le_refl _)
  rw [List.nil_append] at g1
  have hb1 := g1.lt
  simp -implicitDefEqProofs (disch := (first | omega | (simp only [lenB, lowB_len, numB_len, nsumB_len] <;> omega) | fail)) only [admQ, lenB, lowB_len, numB_len, nsumB_len, aFill, AK.cls, implies_true, if_true, if_false, seval, -List.reduceReplicate, (rd_one g1.rd).1, (rd_one g1.rd).2]
  refine ⟨K1.more_app _, m1.length, rfl, K1.len, x1, by rw [own_app_at0]; rfl, g1.rd.app _, fun b hb => by have := hb1 b hb; omega, Nat.zero_le _, by omega⟩
theorem ans_r9left {m : Mem} {r : Nat} {l : List B8} {j : Nat} (h : Rd9 m r l j) : Ans Try.prog 46 [.ptr r 0] m fun v m' => v = .int .i64 ((l.length - j : Nat) : Int) ∧ m' = m := by
  refine ans_ret mixed ok46 ?_
  obtain ⟨v, h1, h2, h3, h4, hl9⟩ := h
  have e : (l.length : Int) - j = ((l.length - j : Nat) : Int) := by omega
  simp -implicitDefEqProofs (disch := (first | omega | (simp only [lenB, lowB_len, numB_len, nsumB_len] <;> omega) | fail)) only [admQ, lenB, lowB_len, numB_len, nsumB_len, aFill, AK.cls, implies_true, if_true, if_false, seval, -List.reduceReplicate, c46, r46, rowOf_own h1, h2.len, e]
theorem ans_r9next {m : Mem} {r : Nat} {l : List B8} {j : Nat} (h : Rd9 m r l j) (hj : j + 8 ≤ l.length) : Ans Try.prog 45 [.ptr r 0, .int .i64 8] m fun v m' => Kept [r] m m' ∧ Rd9 m' r l (j + 8) ∧ ∃ y, v = .tup [y, .bool true] ∧ RdB m' y ((l.drop j).take 8) := by
  refine ans_ret mixed ok45 ?_
  simp -implicitDefEqProofs (disch := (first | omega | (simp only [lenB, lowB_len, numB_len, nsumB_len] <;> omega) | fail)) only [admQ, lenB, lowB_len, numB_len, nsumB_len, aFill, AK.cls, implies_true, if_true, if_false, seval, -List.reduceReplicate, c45, r45]
  refine (ans_r9left h).mono ?_
  rintro _ M ⟨rfl, hM⟩
  subst hM
  obtain ⟨v, h1, h2, h3, h4, hl9⟩ := h
  obtain ⟨q, o, cap, sl, cc, rfl, hrow, hat, hlen, hcap, hsl, htk⟩ := h2.cons (i := j) (by omega)
  have hw := own_set (own_lt h1) [AV.sl q o l.length cap sl, .int .i64 ((j + 8 : Nat) : Int), .bool false]
  have kX := Kept.set1 M r (.row [AV.sl q o l.length cap sl, .int .i64 ((j + 8 : Nat) : Int), .bool false] false)
  have h2' := h2.kept kX (fun b o n cap s e => by cases e; have := h3 q (by simp [blkOf]); simp; omega)
  have e8 : ((j + 8 : Nat) : Int) - 8 = (j : Int) := by omega
  have hq : l.length - j - 8 = l.length - (j + 8) := by omega
  simp -implicitDefEqProofs (disch := (first | omega | (simp only [lenB, lowB_len, numB_len, nsumB_len] <;> omega) | fail)) only [admQ, lenB, lowB_len, numB_len, nsumB_len, aFill, AK.cls, implies_true, if_true, if_false, seval, -List.reduceReplicate, dec_f (show ¬ ((l.length - j : Nat) : Int) < 8 by omega), rowOf_own h1, h1, rowOf_own hw, hw, e8, hsl]
  refine ⟨kX, ⟨_, hw, h2', h3, by omega, hl9⟩, _, rfl, ?_⟩
  have hd := h2'.drop (k := j) (by omega)
  have ht := hd.take (k := 8) (by omega)
  rwa [show j + 8 - j = 8 by omega]
theorem ans_r9rint {m : Mem} {r : Nat} {l : List B8} {j : Nat} (h : Rd9 m r l j) (hj : j + 8 ≤ l.length) : Ans Try.prog 31 [.ptr r 0] m fun v m' => v = .int .i64 (intB ((l.drop j).take 8)) ∧ Kept [r] m m' ∧ Rd9 m' r l (j + 8) := by
  refine ans_ret mixed ok31 ?_
  simp -implicitDefEqProofs (disch := (first | omega | (simp only [lenB, lowB_len, numB_len, nsumB_len] <;> omega) | fail)) only [admQ, lenB, lowB_len, numB_len, nsumB_len, aFill, AK.cls, implies_true, if_true, if_false, seval, -List.reduceReplicate, c31, r31]
  refine (ans_r9next h hj).mono ?_
  rintro _ m1 ⟨k1, hR, y, rfl, hy⟩
  have hl8 : ((l.drop j).take 8).length = 8 := by rw [List.length_take, List.length_drop]; omega
  generalize (l.drop j).take 8 = u at hy hl8
  simp -implicitDefEqProofs (disch := (first | omega | (simp only [lenB, lowB_len, numB_len, nsumB_len] <;> omega) | fail)) only [admQ, lenB, lowB_len, numB_len, nsumB_len, aFill, AK.cls, implies_true, if_true, if_false, seval, -List.reduceReplicate, Bool.not_true]
  refine LoopW.on (fun i : Nat => [(3, y), (5, .int .u64 (beN (u.take i) : Nat)), (6, .int .i64 i)]) (fun i => 8 - i) (fun i M => i ≤ 8 ∧ M = m1) ?_ 0 _ _ rfl ⟨by omega, rfl⟩
  rintro i M X ⟨hi, rfl⟩ hX
  by_cases hlt : i < 8
  · obtain ⟨b, o, cap, sl, c, rfl, hrow, hat, _⟩ := hy.cons (i := i) (by omega)
    have e := hat i (by omega)
    have hb8 := (gb u i).isLt
    have hn := beN_lt (i + 1) (u.take (i + 1)) (by rw [List.length_take]; omega)
    have hs : beN (u.take (i + 1)) = beN (u.take i) * 256 + (gb u i).toNat := by rw [take_gb (by omega), beN_snoc]
    have hp : 256 ^ (i + 1) ≤ 256 ^ 8 := Nat.pow_le_pow_right (by omega) (by omega)
    have e8 : (256 : Nat) ^ 8 = 18446744073709551616 := by decide
    have f1 : IntKind.u64.wrap ((beN (u.take i) * 256 : Nat) : Int) = ((beN (u.take i) * 256 : Nat) : Int) := nw64 (by omega)
    have f2 : IntKind.u64.wrap ((gb u i).toNat : Int) = ((gb u i).toNat : Int) := nw64 (by omega)
    have f3 : IntKind.u64.wrap ((beN (u.take i) * 256 + (gb u i).toNat : Nat) : Int) = ((beN (u.take (i + 1)) : Nat) : Int) := by
      rw [hs, nw64 (by omega)]
    simp -implicitDefEqProofs (disch := (first | omega | (simp only [lenB, lowB_len, numB_len, nsumB_len] <;> omega) | fail)) only [admQ, lenB, lowB_len, numB_len, nsumB_len, aFill, AK.cls, implies_true, if_true, if_false, seval, -List.reduceReplicate, hrow, e, f1, f2, f3]
    exact hX (i + 1) _ _ rfl (by omega) ⟨by omega, rfl⟩
  · obtain rfl : i = 8 := by omega
    have hu : u.take 8 = u := List.take_of_length_le (by omega)
    rw [hu]
    simp -implicitDefEqProofs (disch := (first | omega | (simp only [lenB, lowB_len, numB_len, nsumB_len] <;> omega) | fail)) only [admQ, lenB, lowB_len, numB_len, nsumB_len, aFill, AK.cls, implies_true, if_true, if_false, seval, -List.reduceReplicate]
    exact ⟨rfl, k1, hR⟩
end Go.Proofs.Ytoegmnnecanhfaa
end
section
/- Geometries as the document has them. -/
namespace Go.Proofs.Ytoegmnnecanhfaa
open Go Go.Adm
set_option linter.unusedSimpArgs false
set_option linter.unusedVariables false
set_option maxRecDepth 100000
theorem need_le {n b k : Nat} (hn : 2 ≤ n) : k * (n - 1) < 4 * b ↔ k < needG n b := by
  unfold needG
  rw [Nat.lt_div_iff_mul_lt (by omega)]
  constructor <;> intro h <;> omega
theorem ans_r10needs (s n b : Nat) (hn : 2 ≤ n ∧ n ≤ 1000) (hb : b ≤ 1000) (m : Mem) : Ans Try.prog 54 [geoV ⟨s, n, b⟩, .int .i64 b] m fun r m' => r = .int .i64 (needG n b : Nat) ∧ Kept [] m m' := by
  refine ans_ret mixed ok54 ?_
  unfold geoV geoC
  have k0 := Kept.app [] m [.row [.int .i64 s, .int .i64 n, .int .i64 b] false]
  have o0 : own (m ++ [.row [.int .i64 s, .int .i64 n, .int .i64 b] false]) m.length = some [.int .i64 s, .int .i64 n, .int .i64 b] := by rw [own_app_at0]; rfl
  have hq : needG n b ≤ b * 4 + n - 2 := Nat.div_le_self _ _
  simp -implicitDefEqProofs (disch := (first | omega | (simp only [lenB, lowB_len, numB_len, nsumB_len] <;> omega) | fail)) only [admQ, lenB, lowB_len, numB_len, nsumB_len, aFill, AK.cls, implies_true, if_true, if_false, seval, -List.reduceReplicate, c54, r54]
  generalize m ++ [.row [.int .i64 s, .int .i64 n, .int .i64 b] false] = A at *
  refine LoopW.on (fun k : Nat => [(1, .int .i64 b), (2, .ptr m.length 0), (5, .int .i64 k)]) (fun k => needG n b - k) (fun k M => k ≤ needG n b ∧ M = A) ?_ 0 _ _ rfl ⟨Nat.zero_le _, rfl⟩
  rintro k M X ⟨hk, rfl⟩ hX
  have hmul : k * (n - 1) ≤ 10000 * 1000 := Nat.mul_le_mul (by omega) (by omega)
  by_cases hlt : k < needG n b
  · have h1 := (need_le (n := n) (b := b) (k := k) hn.1).mpr hlt
    simp -implicitDefEqProofs (disch := (first | omega | (simp only [lenB, lowB_len, numB_len, nsumB_len] <;> omega) | fail)) only [admQ, lenB, lowB_len, numB_len, nsumB_len, aFill, AK.cls, implies_true, if_true, if_false, seval, -List.reduceReplicate, rowOf_own o0, dec_t (show ((k * (n - 1) : Nat) : Int) < ((4 * b : Nat) : Int) by omega)]
    exact hX (k + 1) _ _ rfl (by omega) ⟨by omega, rfl⟩
  · obtain rfl : k = needG n b := by omega
    have h1 : ¬ needG n b * (n - 1) < 4 * b := fun h => hlt ((need_le hn.1).mp h)
    simp -implicitDefEqProofs (disch := (first | omega | (simp only [lenB, lowB_len, numB_len, nsumB_len] <;> omega) | fail)) only [admQ, lenB, lowB_len, numB_len, nsumB_len, aFill, AK.cls, implies_true, if_true, if_false, seval, -List.reduceReplicate, rowOf_own o0, dec_f (show ¬ ((needG n b * (n - 1) : Nat) : Int) < ((4 * b : Nat) : Int) by omega)]
    exact k0
theorem ans_r10right (g : Geo) (m : Mem) : Ans Try.prog 42 [geoV g] m fun r m' => r = .bool (decide (okG g)) ∧ Kept [] m m' := by
  refine ans_ret mixed ok42 ?_
  unfold geoV geoC
  have k0 := Kept.app [] m [.row [.int .i64 g.s, .int .i64 g.n, .int .i64 g.b] false]
  have o0 : own (m ++ [.row [.int .i64 g.s, .int .i64 g.n, .int .i64 g.b] false]) m.length = some [.int .i64 g.s, .int .i64 g.n, .int .i64 g.b] := by rw [own_app_at0]; rfl
  by_cases h1 : g.s < 16
  · simp -implicitDefEqProofs (disch := (first | omega | (simp only [lenB, lowB_len, numB_len, nsumB_len] <;> omega) | fail)) only [admQ, lenB, lowB_len, numB_len, nsumB_len, aFill, AK.cls, implies_true, if_true, if_false, seval, -List.reduceReplicate, c42, r42, dec_t h1, dec_f (show ¬ okG g from fun h => by have := h.1.1.1; omega)]
    exact k0
  by_cases h2 : g.s > 32
  · simp -implicitDefEqProofs (disch := (first | omega | (simp only [lenB, lowB_len, numB_len, nsumB_len] <;> omega) | fail)) only [admQ, lenB, lowB_len, numB_len, nsumB_len, aFill, AK.cls, implies_true, if_true, if_false, seval, -List.reduceReplicate, c42, r42, dec_f h1, dec_t h2, dec_f (show ¬ okG g from fun h => by have := h.1.1.2; omega)]
    exact k0
  by_cases h3 : g.n < 32
  · simp -implicitDefEqProofs (disch := (first | omega | (simp only [lenB, lowB_len, numB_len, nsumB_len] <;> omega) | fail)) only [admQ, lenB, lowB_len, numB_len, nsumB_len, aFill, AK.cls, implies_true, if_true, if_false, seval, -List.reduceReplicate, c42, r42, dec_f h1, dec_f h2, dec_t h3, dec_f (show ¬ okG g from fun h => by have := h.1.2.1.1; omega)]
    exact k0
  by_cases h4 : g.n > 64
  · simp -implicitDefEqProofs (disch := (first | omega | (simp only [lenB, lowB_len, numB_len, nsumB_len] <;> omega) | fail)) only [admQ, lenB, lowB_len, numB_len, nsumB_len, aFill, AK.cls, implies_true, if_true, if_false, seval, -List.reduceReplicate, c42, r42, dec_f h1, dec_f h2, dec_f h3, dec_t h4, dec_f (show ¬ okG g from fun h => by have := h.1.2.1.2; omega)]
    exact k0
  by_cases h5 : g.b < 1
  · simp -implicitDefEqProofs (disch := (first | omega | (simp only [lenB, lowB_len, numB_len, nsumB_len] <;> omega) | fail)) only [admQ, lenB, lowB_len, numB_len, nsumB_len, aFill, AK.cls, implies_true, if_true, if_false, seval, -List.reduceReplicate, c42, r42, dec_f h1, dec_f h2, dec_f h3, dec_f h4, dec_t h5, dec_f (show ¬ okG g from fun h => by have := h.1.2.2.1; omega)]
    exact k0
  by_cases h6 : g.b > 64
  · simp -implicitDefEqProofs (disch := (first | omega | (simp only [lenB, lowB_len, numB_len, nsumB_len] <;> omega) | fail)) only [admQ, lenB, lowB_len, numB_len, nsumB_len, aFill, AK.cls, implies_true, if_true, if_false, seval, -List.reduceReplicate, c42, r42, dec_f h1, dec_f h2, dec_f h3, dec_f h4, dec_f h5, dec_t h6, dec_f (show ¬ okG g from fun h => by have := h.1.2.2.2; omega)]
    exact k0
  have hi : inG g := ⟨by omega, by omega, by omega⟩
  simp -implicitDefEqProofs (disch := (first | omega | (simp only [lenB, lowB_len, numB_len, nsumB_len] <;> omega) | fail)) only [admQ, lenB, lowB_len, numB_len, nsumB_len, aFill, AK.cls, implies_true, if_true, if_false, seval, -List.reduceReplicate, c42, r42, dec_f h1, dec_f h2, dec_f h3, dec_f h4, dec_f h5, dec_f h6]
  generalize m ++ [.row [.int .i64 g.s, .int .i64 g.n, .int .i64 g.b] false] = A at *
  obtain ⟨s, n, b⟩ := g
  simp only [inG] at *
  obtain ⟨s, rfl⟩ : ∃ e' : Nat, s = e' := ⟨s.toNat, by omega⟩
  obtain ⟨n, rfl⟩ : ∃ n' : Nat, n = n' := ⟨n.toNat, by omega⟩
  obtain ⟨b, rfl⟩ : ∃ a' : Nat, b = a' := ⟨b.toNat, by omega⟩
  have hneed : needG n b ≤ 10 := by
    unfold needG
    exact Nat.div_le_of_le_mul (by omega)
  have hlean : leanG n ≤ 12 := by unfold leanG; omega
  refine (ans_r10needs s n b (by omega) (by omega) A).mono ?_
  rintro _ m1 ⟨rfl, k1⟩
  have o1 := k1.own o0 (by simp)
  have w1 : IntKind.i64.wrap ((s : Int) - (needG n b : Nat)) = (s : Int) - (needG n b : Nat) := wrap_i64 (by omega) (by omega)
  have hlq : ((n - 1) / 5 : Nat) = leanG n := rfl
  have hx : ((s - needG n b : Nat) : Int) - 14 = (s : Int) - (needG n b : Nat) - 14 := by omega
  have hy : ∀ z : Int, -100 ≤ z → z ≤ 100 → -10000 ≤ z * ((leanG n + 1 : Nat) : Int) ∧ z * ((leanG n + 1 : Nat) : Int) ≤ 10000 := fun z h1 h2 => by
    have : leanG n = 0 ∨ leanG n = 1 ∨ leanG n = 2 ∨ leanG n = 3 ∨ leanG n = 4 ∨ leanG n = 5 ∨ leanG n = 6 ∨ leanG n = 7 ∨ leanG n = 8 ∨ leanG n = 9 ∨ leanG n = 10 ∨ leanG n = 11 ∨ leanG n = 12 := by omega
    rcases this with h | h | h | h | h | h | h | h | h | h | h | h | h <;> rw [h] <;> omega
  have w2 : IntKind.i64.wrap ((s : Int) - (needG n b : Nat) - 14) = (s : Int) - (needG n b : Nat) - 14 := wrap_i64 (by omega) (by omega)
  obtain ⟨y1, y2⟩ := hy ((s : Int) - (needG n b : Nat) - 14) (by omega) (by omega)
  simp -implicitDefEqProofs (disch := (first | omega | (simp only [lenB, lowB_len, numB_len, nsumB_len] <;> omega) | fail)) only [admQ, lenB, lowB_len, numB_len, nsumB_len, aFill, AK.cls, implies_true, if_true, if_false, seval, -List.reduceReplicate, rowOf_own o1, rowOf_own o0, w1, w2, hlq, hx, wrap_i64 (show (-9223372036854775808 : Int) ≤ ((s : Int) - (needG n b : Nat) - 14) * ((leanG n + 1 : Nat) : Int) by omega) (by omega)]
  refine ⟨?_, k0.trans k1⟩
  have hin : inG ⟨(s : Int), (n : Int), (b : Int)⟩ := hi
  congr 2
  simp only [okG, hin, true_and, Int.toNat_natCast, Int.natCast_add, Int.natCast_one, gt_iff_lt]
  rfl
theorem ans_r10check (g : Geo) (m : Mem) : Ans Try.prog 25 [geoV g] m fun r m' => r = .int .i64 (errG g) ∧ Kept [] m m' := by
  refine ans_ret mixed ok25 ?_
  unfold geoV geoC
  have k0 := Kept.app [] m [.row [.int .i64 g.s, .int .i64 g.n, .int .i64 g.b] false]
  simp -implicitDefEqProofs (disch := (first | omega | (simp only [lenB, lowB_len, numB_len, nsumB_len] <;> omega) | fail)) only [admQ, lenB, lowB_len, numB_len, nsumB_len, aFill, AK.cls, implies_true, if_true, if_false, seval, -List.reduceReplicate, c25, r25]
  refine (ans_r10right g _).mono ?_
  rintro _ m1 ⟨rfl, k1⟩
  unfold errG
  by_cases h : okG g
  · rw [if_pos h]
    simp -implicitDefEqProofs (disch := (first | omega | (simp only [lenB, lowB_len, numB_len, nsumB_len] <;> omega) | fail)) only [admQ, lenB, lowB_len, numB_len, nsumB_len, aFill, AK.cls, implies_true, if_true, if_false, seval, -List.reduceReplicate, dec_t h]
    exact k0.trans k1
  · rw [if_neg h]
    simp -implicitDefEqProofs (disch := (first | omega | (simp only [lenB, lowB_len, numB_len, nsumB_len] <;> omega) | fail)) only [admQ, lenB, lowB_len, numB_len, nsumB_len, aFill, AK.cls, implies_true, if_true, if_false, seval, -List.reduceReplicate, dec_f h]
    exact k0.trans k1
theorem ans_r15put (g : Geo) (m : Mem) : Ans Try.prog 9 [geoV g] m fun r m' => Kept [] m m' ∧ ∃ w, r = .tup [w, .int .i64 (errG g)] ∧ RdB m' w (putG g) := by
  refine ans_ret mixed ok9 ?_
  unfold geoV geoC
  have k0 := Kept.app [] m [.row [.int .i64 g.s, .int .i64 g.n, .int .i64 g.b] false]
  have o0 : own (m ++ [.row [.int .i64 g.s, .int .i64 g.n, .int .i64 g.b] false]) m.length = some [.int .i64 g.s, .int .i64 g.n, .int .i64 g.b] := by rw [own_app_at0]; rfl
  simp -implicitDefEqProofs (disch := (first | omega | (simp only [lenB, lowB_len, numB_len, nsumB_len] <;> omega) | fail)) only [admQ, lenB, lowB_len, numB_len, nsumB_len, aFill, AK.cls, implies_true, if_true, if_false, seval, -List.reduceReplicate, c9, r9]
  generalize m ++ [.row [.int .i64 g.s, .int .i64 g.n, .int .i64 g.b] false] = A at *
  refine (ans_r10check g _).mono ?_
  rintro _ m1 ⟨rfl, k1⟩
  have o1 := k1.own o0 (by simp)
  have K1 := k0.trans k1
  by_cases h : okG g
  · have he := (errG_ok g).mpr h
    rw [he]
    obtain ⟨s, n, b⟩ := g
    have hi := h.1
    simp only [inG] at hi
    simp only at *
    obtain ⟨s, rfl⟩ : ∃ e' : Nat, s = e' := ⟨s.toNat, by omega⟩
    obtain ⟨n, rfl⟩ : ∃ n' : Nat, n = n' := ⟨n.toNat, by omega⟩
    obtain ⟨b, rfl⟩ : ∃ a' : Nat, b = a' := ⟨b.toNat, by omega⟩
    simp -implicitDefEqProofs (disch := (first | omega | (simp only [lenB, lowB_len, numB_len, nsumB_len] <;> omega) | fail)) only [admQ, lenB, lowB_len, numB_len, nsumB_len, aFill, AK.cls, implies_true, if_true, if_false, seval, -List.reduceReplicate, rowOf_own o1]
    refine (ans_r9int s (by omega) (.nils m1) (by simp)).mono ?_
    rintro y1 m2 ⟨k2, g2⟩
    have o2 := k2.own o1 (by simp)
    rw [List.nil_append] at g2
    simp -implicitDefEqProofs (disch := (first | omega | (simp only [lenB, lowB_len, numB_len, nsumB_len] <;> omega) | fail)) only [admQ, lenB, lowB_len, numB_len, nsumB_len, aFill, AK.cls, implies_true, if_true, if_false, seval, -List.reduceReplicate, rowOf_own o1, rowOf_own o2]
    refine (ans_r9int n (by omega) g2.rd (by simp [numB_len])).mono ?_
    rintro y2 m3 ⟨k3, g3⟩
    have o3 := k3.own o2 (by simp)
    simp -implicitDefEqProofs (disch := (first | omega | (simp only [lenB, lowB_len, numB_len, nsumB_len] <;> omega) | fail)) only [admQ, lenB, lowB_len, numB_len, nsumB_len, aFill, AK.cls, implies_true, if_true, if_false, seval, -List.reduceReplicate, rowOf_own o1, rowOf_own o2, rowOf_own o3]
    refine (ans_r9int b (by omega) g3.rd (by simp [numB_len])).mono ?_
    rintro y3 m4 ⟨k4, g4⟩
    have o4 := k4.own o3 (by simp)
    simp -implicitDefEqProofs (disch := (first | omega | (simp only [lenB, lowB_len, numB_len, nsumB_len] <;> omega) | fail)) only [admQ, lenB, lowB_len, numB_len, nsumB_len, aFill, AK.cls, implies_true, if_true, if_false, seval, -List.reduceReplicate, rowOf_own o1, rowOf_own o2, rowOf_own o3, rowOf_own o4]
    refine ⟨(K1.trans k2).trans (k3.trans k4), y3, rfl, ?_⟩
    rw [putG, if_pos h, geoB]
    simpa using g4.rd
  · have he : errG g = 15 := if_neg h
    rw [he]
    simp -implicitDefEqProofs (disch := (first | omega | (simp only [lenB, lowB_len, numB_len, nsumB_len] <;> omega) | fail)) only [admQ, lenB, lowB_len, numB_len, nsumB_len, aFill, AK.cls, implies_true, if_true, if_false, seval, -List.reduceReplicate]
    exact ⟨K1, .nils, rfl, by rw [putG, if_neg h]; exact .nils _⟩
/-- A document's reader, bad or not. -/
def Rd9g (m : Mem) (r : Nat) (l : List B8) (j : Nat) (bad : Bool) : Prop := ∃ v, own m r = some [v, .int .i64 j, .bool bad] ∧ RdB m v l ∧ (∀ b ∈ blkOf v, b < r) ∧ j ≤ l.length ∧ l.length ≤ 1000000000
theorem Rd9g.kept0 {m m' : Mem} {r : Nat} {l : List B8} {j : Nat} {bad : Bool} (h : Rd9g m r l j bad) (hk : Kept [] m m') : Rd9g m' r l j bad := by
  obtain ⟨v, h1, h2, h3⟩ := h
  exact ⟨v, hk.own h1 (by simp), h2.kept0 hk, h3⟩
theorem ans_r9left2 {m : Mem} {r : Nat} {l : List B8} {j : Nat} {bad : Bool} (h : Rd9g m r l j bad) : Ans Try.prog 46 [.ptr r 0] m fun v m' => v = .int .i64 (if bad = true then 0 else ((l.length - j : Nat) : Int)) ∧ m' = m := by
  cases bad with
  | false => exact ans_r9left h
  | true =>
    refine ans_ret mixed ok46 ?_
    obtain ⟨v, h1, h2, h3, h4, h5⟩ := h
    simp -implicitDefEqProofs (disch := (first | omega | (simp only [lenB, lowB_len, numB_len, nsumB_len] <;> omega) | fail)) only [admQ, lenB, lowB_len, numB_len, nsumB_len, aFill, AK.cls, implies_true, if_true, if_false, seval, -List.reduceReplicate, c46, r46, rowOf_own h1]
theorem ans_r9end {m : Mem} {r : Nat} {l : List B8} {j : Nat} {bad : Bool} (h : Rd9g m r l j bad) : Ans Try.prog 32 [.ptr r 0] m fun v m' => v = .int .i64 (if bad = true then 4 else if 0 < (l.drop j).length then 3 else 0) ∧ m' = m := by
  refine ans_ret mixed ok32 ?_
  have hh := h
  obtain ⟨v, h1, h2, h3, h4, h5⟩ := h
  cases bad with
  | true => simp -implicitDefEqProofs (disch := (first | omega | (simp only [lenB, lowB_len, numB_len, nsumB_len] <;> omega) | fail)) only [admQ, lenB, lowB_len, numB_len, nsumB_len, aFill, AK.cls, implies_true, if_true, if_false, seval, -List.reduceReplicate, c32, r32, rowOf_own h1]
  | false =>
    simp -implicitDefEqProofs (disch := (first | omega | (simp only [lenB, lowB_len, numB_len, nsumB_len] <;> omega) | fail)) only [admQ, lenB, lowB_len, numB_len, nsumB_len, aFill, AK.cls, implies_true, if_true, if_false, seval, -List.reduceReplicate, c32, r32, rowOf_own h1]
    refine (ans_r9left2 hh).mono ?_
    rintro _ M ⟨rfl, hM⟩
    subst hM
    rw [List.length_drop]
    by_cases hl : 0 < l.length - j
    · simp -implicitDefEqProofs (disch := (first | omega | (simp only [lenB, lowB_len, numB_len, nsumB_len] <;> omega) | fail)) only [admQ, lenB, lowB_len, numB_len, nsumB_len, aFill, AK.cls, implies_true, if_true, if_false, seval, -List.reduceReplicate, dec_t (show ((l.length - j : Nat) : Int) > 0 by omega), hl]
    · simp -implicitDefEqProofs (disch := (first | omega | (simp only [lenB, lowB_len, numB_len, nsumB_len] <;> omega) | fail)) only [admQ, lenB, lowB_len, numB_len, nsumB_len, aFill, AK.cls, implies_true, if_true, if_false, seval, -List.reduceReplicate, dec_f (show ¬ ((l.length - j : Nat) : Int) > 0 by omega), hl]
theorem ans_r9rint2 {m : Mem} {r : Nat} {l : List B8} {j : Nat} {bad : Bool} (h : Rd9g m r l j bad) : Ans Try.prog 31 [.ptr r 0] m fun v m' => v = .int .i64 (rdN (l.drop j, bad)) ∧ Kept [r] m m' ∧ ∃ j', Rd9g m' r l j' (rdT (l.drop j, bad)).2 ∧ (rdT (l.drop j, bad)).1 = l.drop j' := by
  by_cases hok : bad = false ∧ 8 ≤ (l.drop j).length
  · obtain ⟨rfl, hl⟩ := hok
    rw [rdN, rdT, if_pos ⟨rfl, hl⟩, if_pos ⟨rfl, hl⟩]
    rw [List.length_drop] at hl
    refine (ans_r9rint (j := j) h (by obtain ⟨_, _, _, _, h4, _⟩ := h; omega)).mono ?_
    rintro v m' ⟨h1, h2, h3⟩
    exact ⟨h1, h2, j + 8, h3, by rw [List.drop_drop]⟩
  · rw [rdN, rdT, if_neg hok, if_neg hok]
    have hh := h
    obtain ⟨v, h1, h2, h3, h4, h5⟩ := h
    have h1' := own_set (own_lt h1) [v, .int .i64 (j : Nat), .bool true]
    have kX := Kept.set1 m r (.row [v, .int .i64 (j : Nat), .bool true] false)
    have h2' : RdB (m.set r (.row [v, .int .i64 (j : Nat), .bool true] false)) v l := rdb_ap h2 kX (fun b hb => by have := h3 b hb; simp; omega)
    have hnx : Ans Try.prog 45 [.ptr r 0, .int .i64 8] m fun v' m' => v' = .tup [.nils, .bool false] ∧ Kept [r] m m' ∧ Rd9g m' r l j true := by
      refine ans_ret mixed ok45 ?_
      simp -implicitDefEqProofs (disch := (first | omega | (simp only [lenB, lowB_len, numB_len, nsumB_len] <;> omega) | fail)) only [admQ, lenB, lowB_len, numB_len, nsumB_len, aFill, AK.cls, implies_true, if_true, if_false, seval, -List.reduceReplicate, c45, r45]
      refine (ans_r9left2 hh).mono ?_
      rintro _ M ⟨rfl, hM⟩
      subst hM
      have hlt : (if bad = true then (0 : Int) else ((l.length - j : Nat) : Int)) < 8 := by
        split
        · omega
        · rename_i hb
          have : ¬ 8 ≤ (l.drop j).length := fun h => hok ⟨by simpa using hb, h⟩
          rw [List.length_drop] at this
          omega
      simp -implicitDefEqProofs (disch := (first | omega | (simp only [lenB, lowB_len, numB_len, nsumB_len] <;> omega) | fail)) only [admQ, lenB, lowB_len, numB_len, nsumB_len, aFill, AK.cls, implies_true, if_true, if_false, seval, -List.reduceReplicate, dec_t hlt, h1]
      exact ⟨kX, v, h1', h2', h3, h4, h5⟩
    refine ans_ret mixed ok31 ?_
    simp -implicitDefEqProofs (disch := (first | omega | (simp only [lenB, lowB_len, numB_len, nsumB_len] <;> omega) | fail)) only [admQ, lenB, lowB_len, numB_len, nsumB_len, aFill, AK.cls, implies_true, if_true, if_false, seval, -List.reduceReplicate, c31, r31]
    refine hnx.mono ?_
    rintro _ m1 ⟨rfl, k1, hR⟩
    simp -implicitDefEqProofs (disch := (first | omega | (simp only [lenB, lowB_len, numB_len, nsumB_len] <;> omega) | fail)) only [admQ, lenB, lowB_len, numB_len, nsumB_len, aFill, AK.cls, implies_true, if_true, if_false, seval, -List.reduceReplicate, Bool.not_false]
    exact ⟨k1, j, hR, rfl⟩
theorem ans_r15get {m : Mem} {x : AV} {b : List B8} (hx : RdB m x b) (hl : b.length ≤ 100000) : Ans Try.prog 11 [x] m fun r m' => Kept [] m m' ∧ r = .tup [geoV (getG b), .int .i64 (getGE b)] := by
  refine ans_ret mixed ok11 ?_
  simp -implicitDefEqProofs (disch := (first | omega | (simp only [lenB, lowB_len, numB_len, nsumB_len] <;> omega) | fail)) only [admQ, lenB, lowB_len, numB_len, nsumB_len, aFill, AK.cls, implies_true, if_true, if_false, seval, -List.reduceReplicate, c11, r11]
  have k0 := Kept.app [] m [.row [.int .i64 0, .int .i64 0, .int .i64 0] false]
  have o0 : own (m ++ [.row [.int .i64 0, .int .i64 0, .int .i64 0] false]) m.length = some [.int .i64 0, .int .i64 0, .int .i64 0] := by rw [own_app_at0]; rfl
  generalize m ++ [.row [.int .i64 0, .int .i64 0, .int .i64 0] false] = A at *
  refine (ans_r9read (hx.kept0 k0) (by omega)).mono ?_
  rintro _ m1 ⟨k1, p, rfl, hp, hR⟩
  simp -implicitDefEqProofs (disch := (first | omega | (simp only [lenB, lowB_len, numB_len, nsumB_len] <;> omega) | fail)) only [admQ, lenB, lowB_len, numB_len, nsumB_len, aFill, AK.cls, implies_true, if_true, if_false, seval, -List.reduceReplicate]
  refine (ans_r9rint2 (bad := false) hR).mono ?_
  rintro _ m2 ⟨rfl, k2, j2, hR2, e2⟩
  obtain ⟨q1, q2⟩ := rd_three (b := b)
  rw [List.drop_zero] at e2 hR2 ⊢
  simp -implicitDefEqProofs (disch := (first | omega | (simp only [lenB, lowB_len, numB_len, nsumB_len] <;> omega) | fail)) only [admQ, lenB, lowB_len, numB_len, nsumB_len, aFill, AK.cls, implies_true, if_true, if_false, seval, -List.reduceReplicate]
  have t1 : (b.drop j2, (rdT (b, false)).2) = rdT (b, false) := by rw [← e2]
  have hpm2 : p < m2.length := by obtain ⟨v, h, _⟩ := hR2; exact own_lt h
  have k2' := Kept.app [] m2 [.row [.int .i64 (rdN (b, false)), .int .i64 0, .int .i64 0] false]
  have g2 : own (m2 ++ [.row [.int .i64 (rdN (b, false)), .int .i64 0, .int .i64 0] false]) m2.length = some [.int .i64 (rdN (b, false)), .int .i64 0, .int .i64 0] := by rw [own_app_at0]; rfl
  generalize m2 ++ [.row [.int .i64 (rdN (b, false)), .int .i64 0, .int .i64 0] false] = B2 at *
  have hpm : p < B2.length := by obtain ⟨v, h, _⟩ := hR2.kept0 k2'; exact own_lt h
  refine (ans_r9rint2 (hR2.kept0 k2')).mono ?_
  rintro _ m3 ⟨rfl, k3, j3, hR3, e3⟩
  rw [t1] at hR3 e3 ⊢
  have t2 : (b.drop j3, (rdT (rdT (b, false))).2) = rdT (rdT (b, false)) := by rw [← e3]
  have g3 := k3.own g2 (by simp; omega)
  have l23 := k3.len
  simp -implicitDefEqProofs (disch := (first | omega | (simp only [lenB, lowB_len, numB_len, nsumB_len] <;> omega) | fail)) only [admQ, lenB, lowB_len, numB_len, nsumB_len, aFill, AK.cls, implies_true, if_true, if_false, seval, -List.reduceReplicate, g3]
  have k3' := Kept.set1 m3 m2.length (.row [.int .i64 (rdN (b, false)), .int .i64 (rdN (rdT (b, false))), .int .i64 0] false)
  have g4 := own_set (own_lt g3) [AV.int .i64 (rdN (b, false)), .int .i64 (rdN (rdT (b, false))), .int .i64 0]
  generalize m3.set m2.length (.row [.int .i64 (rdN (b, false)), .int .i64 (rdN (rdT (b, false))), .int .i64 0] false) = B3 at *
  have hR4 : Rd9g B3 p b j3 (rdT (rdT (b, false))).2 := by
    obtain ⟨v, h1, h2, h3, h4⟩ := hR3
    exact ⟨v, k3'.own h1 (by simp; omega), rdb_ap h2 k3' (fun q hq => by have := h3 q hq; simp; omega), h3, h4⟩
  refine (ans_r9rint2 hR4).mono ?_
  rintro _ m4 ⟨rfl, k4, j4, hR5, e4⟩
  rw [t2] at hR5 e4 ⊢
  have g5 := k4.own g4 (by simp; omega)
  simp -implicitDefEqProofs (disch := (first | omega | (simp only [lenB, lowB_len, numB_len, nsumB_len] <;> omega) | fail)) only [admQ, lenB, lowB_len, numB_len, nsumB_len, aFill, AK.cls, implies_true, if_true, if_false, seval, -List.reduceReplicate, g5]
  have k4' := Kept.set1 m4 m2.length (.row [.int .i64 (rdN (b, false)), .int .i64 (rdN (rdT (b, false))), .int .i64 (rdN (rdT (rdT (b, false))))] false)
  have g6 := own_set (own_lt g5) [AV.int .i64 (rdN (b, false)), .int .i64 (rdN (rdT (b, false))), .int .i64 (rdN (rdT (rdT (b, false))))]
  generalize hB4 : m4.set m2.length (.row [.int .i64 (rdN (b, false)), .int .i64 (rdN (rdT (b, false))), .int .i64 (rdN (rdT (rdT (b, false))))] false) = B4 at *
  have hR6 : Rd9g B4 p b j4 (rdT (rdT (rdT (b, false)))).2 := by
    obtain ⟨v, h1, h2, h3, h4⟩ := hR5
    exact ⟨v, k4'.own h1 (by simp; omega), rdb_ap h2 k4' (fun q hq => by have := h3 q hq; simp; omega), h3, h4⟩
  have lA := own_lt o0
  have l12 := k1.len
  have l2 := k2.len
  have hX : ∀ q ∈ [p], A.length ≤ q := by simpa using hp
  have KA2 : Kept [] A m2 := k1.upon k2 hX
  have KA : Kept [] A B4 := by
    have h1 := ((KA2.trans k2').upon k3 hX).upon k3' (by simp; omega)
    exact (h1.upon k4 hX).upon k4' (by simp; omega)
  have o6 := KA.own o0 (by simp)
  have KB := k0.trans KA
  refine (ans_r9end hR6).mono ?_
  rintro _ M ⟨rfl, hM⟩
  subst hM
  have e5 : (b.drop j4).length = (rdT (rdT (rdT (b, false)))).1.length := by rw [e4]
  rw [e5, q1]
  have fin0 : ∀ (m' : Mem) (e : Int), e ≠ 0 → getGE b = e → Kept [] m m' → Kept [] m m' ∧ AV.tup [.agg [.int .i64 0, .int .i64 0, .int .i64 0], .int .i64 e] = .tup [geoV (getG b), .int .i64 (getGE b)] := fun m' e h0 he hk => by
    refine ⟨hk, ?_⟩
    rw [he, getG, he, if_neg h0]; rfl
  by_cases h1 : b.length < 24
  · have he : getGE b = 4 := by rw [getGE, if_pos h1]
    rw [if_pos h1]
    simp -implicitDefEqProofs (disch := (first | omega | (simp only [lenB, lowB_len, numB_len, nsumB_len] <;> omega) | fail)) only [admQ, lenB, lowB_len, numB_len, nsumB_len, aFill, AK.cls, implies_true, if_true, if_false, seval, -List.reduceReplicate, o6, own_set (own_lt o6), rowOf_own (own_set (own_lt o6) _)]
    exact fin0 _ _ (by omega) he (KB.write (.inr (Nat.le_refl _)) _)
  by_cases h2 : 24 < b.length
  · have he : getGE b = 3 := by rw [getGE, if_neg h1, if_pos h2]
    rw [if_neg h1, if_pos h2]
    simp -implicitDefEqProofs (disch := (first | omega | (simp only [lenB, lowB_len, numB_len, nsumB_len] <;> omega) | fail)) only [admQ, lenB, lowB_len, numB_len, nsumB_len, aFill, AK.cls, implies_true, if_true, if_false, seval, -List.reduceReplicate, o6, own_set (own_lt o6), rowOf_own (own_set (own_lt o6) _)]
    exact fin0 _ _ (by omega) he (KB.write (.inr (Nat.le_refl _)) _)
  have hraw := q2 (by omega)
  rw [if_neg h1, if_neg h2]
  simp -implicitDefEqProofs (disch := (first | omega | (simp only [lenB, lowB_len, numB_len, nsumB_len] <;> omega) | fail)) only [admQ, lenB, lowB_len, numB_len, nsumB_len, aFill, AK.cls, implies_true, if_true, if_false, seval, -List.reduceReplicate, rowOf_own g6]
  refine (ans_r10check ⟨rdN (b, false), rdN (rdT (b, false)), rdN (rdT (rdT (b, false)))⟩ M).mono ?_
  rintro _ m7 ⟨rfl, k7⟩
  have o7 := k7.own g6 (by simp)
  have o7' := k7.own o6 (by simp)
  have he : getGE b = errG ⟨rdN (b, false), rdN (rdT (b, false)), rdN (rdT (rdT (b, false)))⟩ := by rw [getGE, if_neg h1, if_neg h2, hraw]
  have K7 := KB.trans k7
  by_cases h3 : errG ⟨rdN (b, false), rdN (rdT (b, false)), rdN (rdT (rdT (b, false)))⟩ = 0
  · rw [h3]
    simp -implicitDefEqProofs (disch := (first | omega | (simp only [lenB, lowB_len, numB_len, nsumB_len] <;> omega) | fail)) only [admQ, lenB, lowB_len, numB_len, nsumB_len, aFill, AK.cls, implies_true, if_true, if_false, seval, -List.reduceReplicate, rowOf_own o7, o7', own_set (own_lt o7'), rowOf_own (own_set (own_lt o7') _)]
    refine ⟨K7.write (.inr (Nat.le_refl _)) _, ?_⟩
    rw [getG, he, h3, if_pos rfl, hraw]; rfl
  · simp -implicitDefEqProofs (disch := (first | omega | (simp only [lenB, lowB_len, numB_len, nsumB_len] <;> omega) | fail)) only [admQ, lenB, lowB_len, numB_len, nsumB_len, aFill, AK.cls, implies_true, if_true, if_false, seval, -List.reduceReplicate, beq_eq_false_iff_ne.mpr h3, o7', own_set (own_lt o7'), rowOf_own (own_set (own_lt o7') _)]
    exact fin0 _ _ h3 he (K7.write (.inr (Nat.le_refl _)) _)
end Go.Proofs.Ytoegmnnecanhfaa
end
section
/- Geometries are put, and got, as the document says. -/
namespace Go.Proofs.Ytoegmnnecanhfaa
open Go Go.Adm
set_option linter.unusedSimpArgs false
set_option linter.unusedVariables false
set_option maxRecDepth 100000
def geoK : List IntKind := [.i64, .i64, .i64]
theorem geo_of {ns : List Int} (h : ns.length = geoK.length ∧ ∀ (i : Nat) (k : IntKind) (n : Int), geoK[i]? = some k → ns[i]? = some n → (Lit.int k n).wf = true) : ∃ g : Geo, Ints geoK ns = geoC g := by
  obtain ⟨hl, -⟩ := h
  match ns, hl with
  | [a, b, c], _ => exact ⟨⟨a, b, c⟩, rfl⟩
theorem ans_SuperPuts {m : Mem} {y : AV} {b : List B8} {g : Geo} (hy : RdB m y b) : Ans Try.prog 3 [geoV g, y] m fun r m' => r = .bool true ∧ Kept [] m m' := by
  refine ans_ret mixed ok3 ?_
  unfold geoV geoC
  have k0 := Kept.app [] m [.row [.int .i64 g.s, .int .i64 g.n, .int .i64 g.b] false]
  have o0 : own (m ++ [.row [.int .i64 g.s, .int .i64 g.n, .int .i64 g.b] false]) m.length = some [.int .i64 g.s, .int .i64 g.n, .int .i64 g.b] := by rw [own_app_at0]; rfl
  have known : ∀ M, Kept [] m M → Ans Try.prog 6 [] M fun r m' => r = .bool true ∧ Kept [] m m' := fun M hk => (ans_suknown M).mono fun r m' ⟨h1, h2⟩ => ⟨h1, hk.trans h2⟩
  by_cases h1 : (b.length : Int) > 4096
  · simp -implicitDefEqProofs (disch := (first | omega | (simp only [lenB, lowB_len, numB_len, nsumB_len] <;> omega) | fail)) only [admQ, lenB, lowB_len, numB_len, nsumB_len, aFill, AK.cls, implies_true, if_true, if_false, seval, -List.reduceReplicate, c3, r3, hy.len, dec_t h1]
    refine (known _ k0).mono ?_
    rintro _ m1 ⟨rfl, k1⟩
    simp -implicitDefEqProofs (disch := (first | omega | (simp only [lenB, lowB_len, numB_len, nsumB_len] <;> omega) | fail)) only [admQ, lenB, lowB_len, numB_len, nsumB_len, aFill, AK.cls, implies_true, if_true, if_false, seval, -List.reduceReplicate]
    exact k1
  simp -implicitDefEqProofs (disch := (first | omega | (simp only [lenB, lowB_len, numB_len, nsumB_len] <;> omega) | fail)) only [admQ, lenB, lowB_len, numB_len, nsumB_len, aFill, AK.cls, implies_true, if_true, if_false, seval, -List.reduceReplicate, c3, r3, hy.len, dec_f h1]
  generalize m ++ [.row [.int .i64 g.s, .int .i64 g.n, .int .i64 g.b] false] = A at *
  have hyA := hy.kept0 k0
  refine (ans_lentbytes hyA (by omega)).mono ?_
  rintro _ m1 ⟨p, rfl, k1, hp, e1⟩
  have o1 := k1.own o0 (by simp)
  have hlb := lent_len b
  simp -implicitDefEqProofs (disch := (first | omega | (simp only [lenB, lowB_len, numB_len, nsumB_len] <;> omega) | fail)) only [admQ, lenB, lowB_len, numB_len, nsumB_len, aFill, AK.cls, implies_true, if_true, if_false, seval, -List.reduceReplicate, rowOf_own o1]
  refine (ans_suput g m1).mono ?_
  rintro _ m2 ⟨k2, w, rfl, rw2, bw2⟩
  have o2 := k2.own o1 (by simp)
  simp -implicitDefEqProofs (disch := (first | omega | (simp only [lenB, lowB_len, numB_len, nsumB_len] <;> omega) | fail)) only [admQ, lenB, lowB_len, numB_len, nsumB_len, aFill, AK.cls, implies_true, if_true, if_false, seval, -List.reduceReplicate, rowOf_own o2]
  refine (ans_r15put g m2).mono ?_
  rintro _ m3 ⟨k3, w', rfl, rw3⟩
  have k13 := k2.trans k3
  have e3 := k13.own e1 (by simp)
  have KA3 := k1.trans k13
  have ra : RdB m3 (.sl p 0 (b.length + 5) (b.length + 5) 0) (lent b) := by
    have h := RdB.row (m := m3) (l := lent b) (b.length + 5) 0 (rowOf_own e3) (by omega)
    rwa [hlb] at h
  have rb : RdB m3 (.sl p 0 b.length (b.length + 5) 0) b := by
    have := ra.take (k := b.length) (by omega)
    rwa [lent_take] at this
  simp -implicitDefEqProofs (disch := (first | omega | (simp only [lenB, lowB_len, numB_len, nsumB_len] <;> omega) | fail)) only [admQ, lenB, lowB_len, numB_len, nsumB_len, aFill, AK.cls, implies_true, if_true, if_false, seval, -List.reduceReplicate, (hyA.kept0 KA3).len]
  refine (ans_suget rb (by omega)).mono ?_
  rintro _ m4 ⟨k4, rfl⟩
  generalize hG : getG b = G
  generalize hE : getGE b = E
  unfold geoV geoC
  simp -implicitDefEqProofs (disch := (first | omega | (simp only [lenB, lowB_len, numB_len, nsumB_len] <;> omega) | fail)) only [admQ, lenB, lowB_len, numB_len, nsumB_len, aFill, AK.cls, implies_true, if_true, if_false, seval, -List.reduceReplicate]
  have k4' := Kept.app [] m4 [.row [.int .i64 G.s, .int .i64 G.n, .int .i64 G.b] false]
  have c4 : own (m4 ++ [.row [.int .i64 G.s, .int .i64 G.n, .int .i64 G.b] false]) m4.length = some [.int .i64 G.s, .int .i64 G.n, .int .i64 G.b] := by rw [own_app_at0]; rfl
  generalize m4 ++ [.row [.int .i64 G.s, .int .i64 G.n, .int .i64 G.b] false] = B4 at *
  have KA4 := KA3.trans (k4.trans k4')
  refine (ans_r15get (hyA.kept0 KA4) (by omega)).mono ?_
  rintro _ m5 ⟨k5, rfl⟩
  rw [hG, hE]
  unfold geoV geoC
  have c5 := k5.own c4 (by simp)
  have k5' := Kept.app [] m5 [.row [.int .i64 G.s, .int .i64 G.n, .int .i64 G.b] false]
  have d5 : own (m5 ++ [.row [.int .i64 G.s, .int .i64 G.n, .int .i64 G.b] false]) m5.length = some [.int .i64 G.s, .int .i64 G.n, .int .i64 G.b] := by rw [own_app_at0]; rfl
  simp -implicitDefEqProofs (disch := (first | omega | (simp only [lenB, lowB_len, numB_len, nsumB_len] <;> omega) | fail)) only [admQ, lenB, lowB_len, numB_len, nsumB_len, aFill, AK.cls, implies_true, if_true, if_false, seval, -List.reduceReplicate, beq_self_eq_true]
  generalize m5 ++ [.row [.int .i64 G.s, .int .i64 G.n, .int .i64 G.b] false] = B5 at *
  have c6 := k5'.own c5 (by simp)
  have k35 := ((k4.trans k4').trans k5).trans k5'
  have KA5 := KA3.trans k35
  have hpl : (putG g).length ≤ 24 := by unfold putG; split <;> simp [geoB_len]
  refine (ans_samebytes (rw2.kept0 (k3.trans k35)) (rw3.kept0 k35) (by omega)).mono ?_
  rintro _ M ⟨rfl, hM⟩
  subst hM
  simp -implicitDefEqProofs (disch := (first | omega | (simp only [lenB, lowB_len, numB_len, nsumB_len] <;> omega) | fail)) only [admQ, lenB, lowB_len, numB_len, nsumB_len, aFill, AK.cls, implies_true, if_true, if_false, seval, -List.reduceReplicate, beq_self_eq_true, rowOf_own c6, rowOf_own d5]
  refine (ans_keptbytes (ra.kept0 k35) (hyA.kept0 KA5) (by omega)).mono ?_
  rintro _ M2 ⟨rfl, hM⟩
  subst hM
  simp -implicitDefEqProofs (disch := (first | omega | (simp only [lenB, lowB_len, numB_len, nsumB_len] <;> omega) | fail)) only [admQ, lenB, lowB_len, numB_len, nsumB_len, aFill, AK.cls, implies_true, if_true, if_false, seval, -List.reduceReplicate, beq_self_eq_true]
  refine (known _ (k0.trans KA5)).mono ?_
  rintro _ m6 ⟨rfl, k6⟩
  simp -implicitDefEqProofs (disch := (first | omega | (simp only [lenB, lowB_len, numB_len, nsumB_len] <;> omega) | fail)) only [admQ, lenB, lowB_len, numB_len, nsumB_len, aFill, AK.cls, implies_true, if_true, if_false, seval, -List.reduceReplicate]
  exact k6
end Go.Proofs.Ytoegmnnecanhfaa
end
