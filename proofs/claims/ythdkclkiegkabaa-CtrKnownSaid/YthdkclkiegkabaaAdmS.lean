/- Blocks of a memory that grows and is written. -/
import Derived.Test.YthdkclkiegkabaaAdmR
namespace Go.Adm

theorem rowOf_app_at (m e : Mem) (k : Nat) : rowOf (m ++ e) (m.length + k) = rowOf e k := by simp [rowOf, List.getElem?_append_right]
theorem rowOf_app_at0 (m e : Mem) : rowOf (m ++ e) m.length = rowOf e 0 := rowOf_app_at m e 0
theorem own_app_at (m e : Mem) (k : Nat) : own (m ++ e) (m.length + k) = own e k := by simp [own, List.getElem?_append_right]
theorem own_app_at0 (m e : Mem) : own (m ++ e) m.length = own e 0 := own_app_at m e 0
theorem rowOf_c0 (c : List AV) (r : Bool) (e : Mem) : rowOf (.row c r :: e) 0 = some c := rfl
theorem rowOf_c (b : Blk) (e : Mem) (k : Nat) : rowOf (b :: e) (k + 1) = rowOf e k := by simp [rowOf]
theorem own_c0 (c : List AV) (e : Mem) : own (.row c false :: e) 0 = some c := rfl
theorem own_c (b : Blk) (e : Mem) (k : Nat) : own (b :: e) (k + 1) = own e k := by simp [own]
theorem set_app_at (m e : Mem) (k : Nat) (b : Blk) : (m ++ e).set (m.length + k) b = m ++ e.set k b := by
  rw [List.set_append_right _ _ (by omega)]; simp
theorem set_app_at0 (m e : Mem) (b : Blk) : (m ++ e).set m.length b = m ++ e.set 0 b := set_app_at m e 0 b

theorem own_lt {m : Mem} {p : Nat} {c : List AV} (h : own m p = some c) : p < m.length := lt_of_get (own_some h)
theorem rowOf_lt {m : Mem} {p : Nat} {c : List AV} (h : rowOf m p = some c) : p < m.length := by
  obtain ⟨r, h⟩ := rowOf_some h
  exact lt_of_get h
theorem rowOf_own {m : Mem} {p : Nat} {c : List AV} (h : own m p = some c) : rowOf m p = some c := by
  unfold rowOf; rw [own_some h]
theorem own_app {m : Mem} {p : Nat} {c : List AV} (h : own m p = some c) (e : Mem) : own (m ++ e) p = some c := by
  unfold own; rw [List.getElem?_append_left (own_lt h), own_some h]
theorem rowOf_app {m : Mem} {p : Nat} {c : List AV} (h : rowOf m p = some c) (e : Mem) : rowOf (m ++ e) p = some c := by
  obtain ⟨r, h'⟩ := rowOf_some h
  unfold rowOf; rw [List.getElem?_append_left (lt_of_get h'), h']
theorem set_app {m : Mem} {p : Nat} (h : p < m.length) (e : Mem) (b : Blk) : (m ++ e).set p b = m.set p b ++ e := List.set_append_left _ _ h
theorem own_set {m : Mem} {p : Nat} (h : p < m.length) (c : List AV) : own (m.set p (.row c false)) p = some c := by
  unfold own; rw [List.getElem?_set_self h]
theorem own_set_ne {m : Mem} {p q : Nat} (h : p ≠ q) (b : Blk) : own (m.set p b) q = own m q := by
  unfold own; rw [List.getElem?_set_ne h]
theorem rowOf_set_ne {m : Mem} {p q : Nat} (h : p ≠ q) (b : Blk) : rowOf (m.set p b) q = rowOf m q := by
  unfold rowOf; rw [List.getElem?_set_ne h]
theorem own_set_ne' {m : Mem} {p q : Nat} {c : List AV} (hq : own m q = some c) (h : p ≠ q) (b : Blk) : own (m.set p b) q = some c := by
  rw [own_set_ne h, hq]

/-- The cells of a list's elements. -/
def flatOf {α : Type} (f : α → List AV) (l : List α) : List AV := l.flatMap f
theorem flatOf_length {α : Type} {f : α → List AV} {k : Nat} (h : ∀ x, (f x).length = k) (l : List α) : (flatOf f l).length = l.length * k := by
  induction l with
  | nil => simp [flatOf]
  | cons x l ih => simp only [flatOf, List.flatMap_cons, List.length_append, h, List.length_cons] at *; rw [ih, Nat.add_mul]; omega
theorem flatOf_get {α : Type} {f : α → List AV} {k : Nat} (h : ∀ x, (f x).length = k) (l : List α) (i : Nat) (hi : i < l.length) : ((flatOf f l).drop (i * k)).take k = f l[i] := by
  induction l generalizing i with
  | nil => simp at hi
  | cons x l ih =>
    simp only [flatOf, List.flatMap_cons] at *
    cases i with
    | zero => simp [h]
    | succ i =>
      have e : (i + 1) * k = (f x).length + i * k := by rw [h, Nat.add_mul]; omega
      rw [e, ← List.drop_drop, List.drop_left]
      exact ih i (by simpa using hi)
theorem flatOf_cell {α : Type} {f : α → List AV} {k : Nat} (h : ∀ x, (f x).length = k) (l : List α) (i j : Nat) (hi : i < l.length) (hj : j < k) : (flatOf f l)[i * k + j]? = (f l[i])[j]? := by
  have := congrArg (·[j]?) (flatOf_get h l i hi)
  simp only [List.getElem?_take_of_lt hj, List.getElem?_drop] at this
  exact this
theorem flatOf_set {α : Type} {f : α → List AV} {k : Nat} (h : ∀ x, (f x).length = k) (l : List α) (i : Nat) (y : α) (hi : i < l.length) : splice (flatOf f l) (i * k) (f y) = flatOf f (l.set i y) := by
  unfold splice
  rw [h]
  induction l generalizing i with
  | nil => simp at hi
  | cons x l ih =>
    cases i with
    | zero =>
      simp only [flatOf, List.flatMap_cons, List.set_cons_zero, Nat.zero_mul, List.take_zero, List.nil_append, Nat.zero_add]
      rw [List.drop_left' (h x)]
    | succ i =>
      have e : (i + 1) * k = (f x).length + i * k := by rw [h, Nat.add_mul]; omega
      have := ih i (by simpa using hi)
      simp only [flatOf, List.flatMap_cons, List.set_cons_succ] at this ⊢
      rw [e, List.take_length_add_append, Nat.add_assoc, ← List.drop_drop, List.drop_left, ← this]
      simp [List.append_assoc]
end Go.Adm
