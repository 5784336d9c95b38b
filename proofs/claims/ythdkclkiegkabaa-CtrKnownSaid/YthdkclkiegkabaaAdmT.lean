/- How a memory is kept; loops by a state; integers in range. -/
import Derived.Test.YthdkclkiegkabaaAdmS
namespace Go.Adm

/-- Only the blocks of X are changed. -/
structure Kept (X : List Nat) (m m' : Mem) : Prop where
  len : m.length ≤ m'.length
  eq : ∀ q, q < m.length → q ∉ X → m'[q]? = m[q]?
theorem Kept.refl (X : List Nat) (m : Mem) : Kept X m m := ⟨Nat.le_refl _, fun _ _ _ => rfl⟩
theorem Kept.trans {X : List Nat} {m m' m'' : Mem} (h : Kept X m m') (h' : Kept X m' m'') : Kept X m m'' :=
  ⟨Nat.le_trans h.len h'.len, fun q hq hx => by rw [h'.eq q (Nat.lt_of_lt_of_le hq h.len) hx, h.eq q hq hx]⟩
theorem Kept.more {X Y : List Nat} {m m' : Mem} (h : Kept X m m') (hs : ∀ q, q ∈ X → q < m.length → q ∈ Y) : Kept Y m m' :=
  ⟨h.len, fun q hq hx => h.eq q hq fun hx' => hx (hs q hx' hq)⟩
theorem Kept.any {Y : List Nat} {m m' : Mem} (h : Kept [] m m') : Kept Y m m' := h.more fun _ h => by cases h
theorem Kept.app (X : List Nat) (m e : Mem) : Kept X m (m ++ e) := ⟨by simp, fun q hq _ => by rw [List.getElem?_append_left hq]⟩
theorem Kept.set {X : List Nat} (m : Mem) (p : Nat) (b : Blk) (h : p ∈ X) : Kept X m (m.set p b) := ⟨by simp, fun q _ hx => by rw [List.getElem?_set_ne (by rintro rfl; exact hx h)]⟩
theorem Kept.set1 (m : Mem) (p : Nat) (b : Blk) : Kept [p] m (m.set p b) := .set m p b (by simp)
theorem Kept.own {X : List Nat} {m m' : Mem} (h : Kept X m m') {q : Nat} {c : List AV} (hq : own m q = some c) (hx : q ∉ X) : own m' q = some c := by
  have := h.eq q (own_lt hq) hx
  unfold Adm.own at *; rw [this]; exact hq
theorem Kept.row {X : List Nat} {m m' : Mem} (h : Kept X m m') {q : Nat} {c : List AV} (hq : rowOf m q = some c) (hx : q ∉ X) : rowOf m' q = some c := by
  have := h.eq q (rowOf_lt hq) hx
  unfold rowOf at *; rw [this]; exact hq
theorem Kept.lt {X : List Nat} {m m' : Mem} (h : Kept X m m') {q : Nat} (hq : q < m.length) : q < m'.length := Nat.lt_of_lt_of_le hq h.len
theorem Kept.own0 {m m' : Mem} (h : Kept [] m m') {q : Nat} {c : List AV} (hq : Adm.own m q = some c) : Adm.own m' q = some c := h.own hq (by simp)
theorem Kept.row0 {m m' : Mem} (h : Kept [] m m') {q : Nat} {c : List AV} (hq : rowOf m q = some c) : rowOf m' q = some c := h.row hq (by simp)

theorem Kept.fresh {X Y : List Nat} {m m1 m2 : Mem} (h : Kept Y m m1) (h2 : Kept X m1 m2) (hx : ∀ q ∈ X, m.length ≤ q) : Kept Y m m2 :=
  ⟨Nat.le_trans h.len h2.len, fun q hq hy => by rw [h2.eq q (h.lt hq) (fun hm => absurd hq (by have := hx q hm; omega)), h.eq q hq hy]⟩

/-- A loop by a state: its frame, its measure, what holds. -/
theorem LoopW.on {P : Program} {ks : List Nat} {a : ACode} {Q : Exit → AFr → Mem → Prop} {σ : Type} (fr : σ → AFr) (μ : σ → Nat) (J : σ → Mem → Prop)
    (h : ∀ s m X, J s m → (∀ s' t' m', AFr.cut ks t' = fr s' → μ s' < μ s → J s' m' → X t' m') → wpA P a (fr s) m (loopQ X Q)) :
    ∀ (s : σ) (t : AFr) (m : Mem), t.cut ks = fr s → J s m → LoopW ks (wpA P a) t m Q := by
  intro s t m ht hJ
  refine LoopW.inv (fun k t m => ∃ s, k = μ s ∧ t = fr s ∧ J s m) ?_ (μ s) t m ⟨s, rfl, ht, hJ⟩
  rintro k t m ⟨s, rfl, rfl, hJ⟩
  refine h s m _ hJ fun s' t' m' ht' hlt hJ' => ⟨μ s', hlt, s', rfl, ht', hJ'⟩

theorem condS_d {P : Program} {p : Prop} [Decidable p] {a b : ACode} {t : AFr} {m : Mem} {Q : Exit → AFr → Mem → Prop} (h1 : p → condS P (some (.bool true)) a b t m Q) (h2 : ¬ p → condS P (some (.bool false)) a b t m Q) : condS P (some (.bool (decide p))) a b t m Q :=
  condS_i (fun h => h1 (of_decide_eq_true h)) (fun h => h2 (of_decide_eq_false h))
theorem guardS_d {P : Program} {p : Prop} [Decidable p] {d : Option Nat} {k : AK} {xs : List AX} {r : List AOper} {t : AFr} {m : Mem} {K : AFr → Mem → Prop} (h1 : p → guardS P (some true) d k xs r t m K) (h2 : ¬ p → guardS P (some false) d k xs r t m K) : guardS P (some (decide p)) d k xs r t m K :=
  guardS_i (fun h => h1 (of_decide_eq_true h)) (fun h => h2 (of_decide_eq_false h))
theorem guardD_d {P : Program} {p : Prop} [Decidable p] {d : Option Nat} {k : AK} {xs : List AX} {lo hi : Nat} {r : List AOper} {t : AFr} {m : Mem} {past : List Mem} {pend : List (Nat × (Mem → Prop))} {K : AFr → Mem → Prop} (h1 : p → guardD P (some true) d k xs lo hi r t m past pend K) (h2 : ¬ p → guardD P (some false) d k xs lo hi r t m past pend K) : guardD P (some (decide p)) d k xs lo hi r t m past pend K :=
  guardD_i (fun h => h1 (of_decide_eq_true h)) (fun h => h2 (of_decide_eq_false h))

theorem wrap_i64 {x : Int} (h1 : -9223372036854775808 ≤ x) (h2 : x < 9223372036854775808) : IntKind.i64.wrap x = x := by
  have e1 : (2 : Int) ^ IntKind.i64.bits = 18446744073709551616 := by decide
  have e2 : (2 : Int) ^ (IntKind.i64.bits - 1) = 9223372036854775808 := by decide
  unfold IntKind.wrap
  simp only [e1, e2, IntKind.signed, Bool.true_and, decide_eq_true_eq, ge_iff_le]
  split <;> omega
theorem pLen_sl (b o len cap s : Nat) : pLen [.sl b o len cap s] = some (.int .i64 len) := rfl
theorem pLen_nils : pLen [.nils] = some (.int .i64 0) := rfl
theorem splice_nil (l : List AV) : splice l 0 [] = l := by simp [splice]
theorem splice_zero (a b : AV) (l c : List AV) : splice (a :: l) 0 (b :: c) = b :: splice l 0 c := by simp [splice, Nat.add_comm]
theorem splice_succ (a : AV) (n : Nat) (l c : List AV) : splice (a :: l) (n + 1) c = a :: splice l n c := by simp [splice, Nat.add_right_comm]
theorem splice_one (l : List AV) (o : Nat) (v : AV) (h : o < l.length) : splice l o [v] = l.set o v := by
  induction l generalizing o with
  | nil => cases h
  | cons a l ih =>
    cases o with
    | zero => rw [splice_zero, splice_nil]; rfl
    | succ o => rw [splice_succ, ih o (by simpa using h)]; rfl
theorem flatOf_set1 {α : Type} {f : α → List AV} {k : Nat} (h : ∀ x, (f x).length = k) (l : List α) (i j : Nat) (v : AV) (y : α) (hi : i < l.length) (hj : j < k) (hy : f y = (f l[i]).set j v) : splice (flatOf f l) (i * k + j) [v] = flatOf f (l.set i y) := by
  have hlen : i * k + j < (flatOf f l).length := by
    rw [flatOf_length h]
    calc i * k + j < i * k + k := by omega
      _ = (i + 1) * k := by rw [Nat.add_mul]; omega
      _ ≤ l.length * k := Nat.mul_le_mul_right _ hi
  rw [splice_one _ _ _ hlen]
  clear hlen
  induction l generalizing i with
  | nil => simp at hi
  | cons x l ih =>
    simp only [flatOf, List.flatMap_cons] at *
    cases i with
    | zero =>
      simp only [Nat.zero_mul, Nat.zero_add, List.set_cons_zero, List.flatMap_cons]
      rw [List.set_append_left _ _ (by rw [h]; exact hj), hy]; rfl
    | succ i =>
      rw [List.set_cons_succ, List.flatMap_cons, ← ih i (by simpa using hi) (by simpa using hy)]
      rw [List.set_append_right _ _ (by rw [h, Nat.add_mul]; omega)]
      congr 2
      rw [h, Nat.add_mul]; omega

end Go.Adm
