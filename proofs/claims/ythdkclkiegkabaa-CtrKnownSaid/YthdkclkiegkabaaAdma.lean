/- Slices of bytes: read, grown. -/
import Derived.Test.YthdkclkiegkabaaAdmZ
namespace Go.Adm

/-- A slice of bytes that can be read. -/
def RdB (m : Mem) (x : AV) (l : List B8) : Prop :=
  (x = .nils ∧ l = []) ∨ ∃ b o cap s c, x = .sl b o l.length cap s ∧ rowOf m b = some c ∧ o + l.length ≤ c.length ∧ (c.drop o).take l.length = bys l ∧ l.length ≤ cap ∧ (s = 0 ∨ s = 1)
theorem RdB.nils (m : Mem) : RdB m .nils [] := .inl ⟨rfl, rfl⟩
theorem RdB.row {m : Mem} {b : Nat} {l : List B8} (cap s : Nat) (h : rowOf m b = some (bys l)) (hc : l.length ≤ cap) (hs : s = 0 ∨ s = 1 := by first | exact .inl rfl | exact .inr rfl) : RdB m (.sl b 0 l.length cap s) l :=
  .inr ⟨b, 0, cap, s, bys l, rfl, h, by simp, by rw [List.drop_zero]; exact List.take_of_length_le (by simp), hc, hs⟩
theorem RdB.kept {X : List Nat} {m m' : Mem} {x : AV} {l : List B8} (h : RdB m x l) (hk : Kept X m m') (hx : ∀ b o n cap s, x = .sl b o n cap s → b ∉ X) : RdB m' x l := by
  rcases h with h | ⟨b, o, cap, s, c, h1, h2, h3⟩
  · exact .inl h
  · exact .inr ⟨b, o, cap, s, c, h1, hk.row h2 (hx _ _ _ _ _ h1), h3⟩
theorem RdB.kept0 {m m' : Mem} {x : AV} {l : List B8} (h : RdB m x l) (hk : Kept [] m m') : RdB m' x l := h.kept hk (by simp)
theorem RdB.app {m : Mem} {x : AV} {l : List B8} (h : RdB m x l) (e : Mem) : RdB (m ++ e) x l := h.kept0 (.app _ _ _)
theorem RdB.len {m : Mem} {x : AV} {l : List B8} (h : RdB m x l) : pLen [x] = some (.int .i64 l.length) := by
  rcases h with ⟨rfl, rfl⟩ | ⟨b, o, cap, s, c, rfl, _⟩ <;> rfl
theorem RdB.lenA {m : Mem} {x : AV} {l : List B8} (h : RdB m x l) : Adm.lenA x = some l.length := by
  rcases h with ⟨rfl, rfl⟩ | ⟨b, o, cap, s, c, rfl, _⟩ <;> rfl
theorem RdB.elems {m : Mem} {x : AV} {l : List B8} (h : RdB m x l) : Adm.elems 1 l.length x m = some (bys l) := by
  rcases h with ⟨rfl, rfl⟩ | ⟨b, o, cap, s, c, rfl, h2, h3, h4, h5, h6⟩
  · simp [Adm.elems]
  · unfold Adm.elems
    by_cases hl : l.length = 0
    · have : l = [] := List.length_eq_zero_iff.mp hl
      subst this; simp
    · simp only [if_neg hl, Nat.le_refl, if_true, h2, Option.bind_some, Nat.mul_one, if_pos h3, h4]
theorem RdB.cons {m : Mem} {x : AV} {l : List B8} (h : RdB m x l) {i : Nat} (hi : i < l.length) :
    ∃ b o cap s c, x = .sl b o l.length cap s ∧ rowOf m b = some c ∧ (∀ j, j < l.length → c[o + j]? = some (b8 (gb l j))) ∧ o + l.length ≤ c.length ∧ l.length ≤ cap ∧ (s = 0 ∨ s = 1) ∧ (c.drop o).take l.length = bys l := by
  rcases h with ⟨rfl, rfl⟩ | ⟨b, o, cap, s, c, rfl, h2, h3, h4, h5, h6⟩
  · simp at hi
  · refine ⟨b, o, cap, s, c, rfl, h2, fun j hj => ?_, h3, h5, h6, h4⟩
    have := congrArg (·[j]?) h4
    simp only [List.getElem?_take_of_lt hj, List.getElem?_drop] at this
    rw [this, bys_at hj]

theorem RdB.take {m : Mem} {b o n cap s : Nat} {l : List B8} (h : RdB m (.sl b o n cap s) l) {k : Nat} (hk : k ≤ n) : RdB m (.sl b o k cap s) (l.take k) := by
  rcases h with ⟨h, _⟩ | ⟨b', o', cap', s', c, h1, h2, h3, h4, h5, h6⟩
  · cases h
  · cases h1
    have e : (l.take k).length = k := by simp; omega
    refine .inr ⟨b, o, cap, s, c, by rw [e], h2, by omega, ?_, by omega, h6⟩
    rw [e]
    show List.take k (List.drop o c) = (l.take k).map b8
    have h4' : l.map b8 = List.take l.length (List.drop o c) := h4.symm
    rw [List.map_take, h4', List.take_take, Nat.min_eq_left hk]
theorem RdB.drop {m : Mem} {b o n cap s : Nat} {l : List B8} (h : RdB m (.sl b o n cap s) l) {k : Nat} (hk : k ≤ n) : RdB m (.sl b (o + k) (n - k) (cap - k) s) (l.drop k) := by
  rcases h with ⟨h, _⟩ | ⟨b', o', cap', s', c, h1, h2, h3, h4, h5, h6⟩
  · cases h
  · cases h1
    have e : (l.drop k).length = l.length - k := by simp
    refine .inr ⟨b, o + k, cap - k, s, c, by rw [e], h2, by omega, ?_, by omega, h6⟩
    rw [e]
    show List.take (l.length - k) (List.drop (o + k) c) = (l.drop k).map b8
    have h4' : l.map b8 = List.take l.length (List.drop o c) := h4.symm
    rw [List.map_drop, h4', List.drop_take, List.drop_drop]
theorem RdB.length {m : Mem} {b o n cap s : Nat} {l : List B8} (h : RdB m (.sl b o n cap s) l) : l.length = n := by
  rcases h with ⟨h, _⟩ | ⟨b', o', cap', s', c, h1, h2, h3, h4, h5, h6⟩
  · cases h
  · cases h1; rfl
theorem set_same {m : Mem} {p : Nat} {c : List AV} (h : own m p = some c) : m.set p (.row c false) = m := by
  apply List.ext_getElem?
  intro j
  by_cases e : p = j
  · subst e; rw [List.getElem?_set_self (own_lt h), own_some h]
  · rw [List.getElem?_set_ne e]
theorem someW_eq {α : Type} {x y : Option α} {K : α → Prop} (h : x = y) (k : someW y K) : someW x K := h ▸ k
theorem elems_one (m : Mem) (v : AV) : elems 1 1 (.sl m.length 0 1 1 0) (m ++ [.row [v] false]) = some [v] := by
  simp [elems, rowOf]
/-- Appending to a slice that has all of its block. -/
theorem app_grow {m : Mem} {b n k : Nat} {l l2 : List B8} {y : AV} (ho : own m b = some (bys l)) (hl : l.length = n) (hy : elems 1 k y m = some (bys l2)) (hk : lenA y = some k) (hp : 0 < k) (hb : n + k ≤ 1099511627776) :
    aAppend 1 1 (.sl b 0 n n 1) y m = some (.sl m.length 0 (n + k) (n + k) 1, m.set b .dead ++ [.row (bys (l ++ l2)) false]) := by
  have he : elems 1 n (.sl b 0 n n 1) m = some (bys l) := by
    have := (RdB.row (l := l) n 1 (rowOf_own ho) (by omega)).elems
    rw [hl] at this; exact this
  unfold aAppend
  simp only [hk, Option.bind_some, if_neg (show ¬ k = 0 by omega), hy, if_neg (show ¬ n + k ≤ n by omega), Nat.mul_one, if_pos (show n + k ≤ 1099511627776 ∧ n + k ≤ 1099511627776 from ⟨hb, hb⟩), he, ho, Nat.zero_add, bys_len, hl, and_self, if_true]
  simp [hb]
theorem app_grow1 {m : Mem} {b n : Nat} {l : List B8} {v : B8} (ho : own m b = some (bys l)) (hl : l.length = n) (hb : n + 1 ≤ 1099511627776) :
    aAppend 1 1 (.sl b 0 n n 1) (.sl m.length 0 1 1 0) (m ++ [.row [b8 v] false]) = some (.sl (m.length + 1) 0 (n + 1) (n + 1) 1, m.set b .dead ++ [.row [b8 v] false, .row (bys (l ++ [v])) false]) := by
  have := app_grow (m := m ++ [.row [b8 v] false]) (l2 := [v]) (own_app ho _) hl (elems_one m (b8 v)) rfl (by omega) hb
  rw [this, set_app (own_lt ho)]
  simp
/-- Appending to an empty slice that has no room, or to nil. -/
theorem app_new {m : Mem} {x : AV} {l : List B8} {b s : Nat} (h : RdB m x l) (hp : 0 < l.length) (hb : l.length ≤ 1099511627776) : s = 0 →
    aAppend 1 1 (.sl b 0 0 0 s) x m = some (.sl m.length 0 l.length l.length 1, m ++ [.row (bys l) false]) := by
  rintro rfl
  have h0 : elems 1 0 (.sl b 0 0 0 0) m = some [] := by simp [elems]
  unfold aAppend
  simp only [h.lenA, Option.bind_some, if_neg (show ¬ l.length = 0 by omega), h.elems, Nat.zero_add, if_neg (show ¬ l.length ≤ 0 by omega), Nat.mul_one, if_pos (show l.length ≤ 1099511627776 ∧ l.length ≤ 1099511627776 from ⟨hb, hb⟩), h0, List.nil_append]
theorem app_nils {m : Mem} {x : AV} {l : List B8} (h : RdB m x l) (hp : 0 < l.length) (hb : l.length ≤ 1099511627776) :
    aAppend 1 1 .nils x m = some (.sl m.length 0 l.length l.length 1, m ++ [.row (bys l) false]) := by
  unfold aAppend
  simp only [h.lenA, Option.bind_some, if_neg (show ¬ l.length = 0 by omega), h.elems, Nat.mul_one, if_pos (show l.length ≤ 1099511627776 ∧ l.length ≤ 1099511627776 from ⟨hb, hb⟩)]
theorem app_nils1 {m : Mem} {v : B8} : aAppend 1 1 .nils (.sl m.length 0 1 1 0) (m ++ [.row [b8 v] false]) = some (.sl (m.length + 1) 0 1 1 1, m ++ [.row [b8 v] false, .row (bys [v]) false]) := by
  have := app_nils (m := m ++ [.row [b8 v] false]) (x := .sl m.length 0 1 1 0) (l := [v]) (.row (l := [v]) 1 0 (by simp [rowOf]) (by simp)) (by simp) (by simp)
  simpa using this
theorem app_none {m : Mem} {x s : AV} {size bytes : Nat} (h : lenA x = some 0) (hs : (lenA s).isSome) : aAppend size bytes s x m = some (s, m) := by
  unfold aAppend; simp [h, hs]
/-- The same for elements of more cells. -/
theorem appS_grow {m : Mem} {b n k size bytes : Nat} {l l2 : List AV} {y : AV} (ho : own m b = some l) (hl : l.length = n * size) (hs : 0 < size) (hy : elems size k y m = some l2) (hk : lenA y = some k) (hp : 0 < k) (hb : (n + k) * bytes ≤ 1099511627776 ∧ n + k ≤ 1099511627776) :
    aAppend size bytes (.sl b 0 n n size) y m = some (.sl m.length 0 (n + k) (n + k) size, m.set b .dead ++ [.row (l ++ l2) false]) := by
  obtain ⟨s, rfl⟩ : ∃ s, size = s + 1 := ⟨size - 1, by omega⟩
  have he : elems (s + 1) n (.sl b 0 n n (s + 1)) m = some l := by
    unfold elems
    by_cases hn : n = 0
    · subst hn; simp only [if_true]; rw [Nat.zero_mul] at hl; rw [List.length_eq_zero_iff.mp hl]
    · simp only [if_neg hn, Nat.le_refl, if_true, rowOf_own ho, Option.bind_some, Nat.zero_add, hl, List.drop_zero]
      rw [List.take_of_length_le (by omega)]
  unfold aAppend
  simp only [hk, Option.bind_some, if_neg (show ¬ k = 0 by omega), hy, if_neg (show ¬ n + k ≤ n by omega), if_pos hb, he, ho, Nat.zero_add, hl, and_self, if_true]
theorem appS_nils {m : Mem} {k size bytes : Nat} {l2 : List AV} {y : AV} (hy : elems size k y m = some l2) (hk : lenA y = some k) (hp : 0 < k) (hb : k * bytes ≤ 1099511627776 ∧ k ≤ 1099511627776) :
    aAppend size bytes .nils y m = some (.sl m.length 0 k k size, m ++ [.row l2 false]) := by
  unfold aAppend
  simp only [hk, Option.bind_some, if_neg (show ¬ k = 0 by omega), hy, if_pos hb]
theorem elemsS_one {size : Nat} {l : List AV} (m : Mem) (h : l.length = size) : elems size 1 (.sl m.length 0 1 1 0) (m ++ [.row l false]) = some l := by
  simp [elems, rowOf, h]
  exact List.take_of_length_le (by omega)
theorem appS_grow1 {m : Mem} {b n size bytes : Nat} {l l2 : List AV} (ho : own m b = some l) (hl : l.length = n * size) (hs : 0 < size) (h2 : l2.length = size) (hb : (n + 1) * bytes ≤ 1099511627776 ∧ n + 1 ≤ 1099511627776) :
    aAppend size bytes (.sl b 0 n n size) (.sl m.length 0 1 1 0) (m ++ [.row l2 false]) = some (.sl (m.length + 1) 0 (n + 1) (n + 1) size, m.set b .dead ++ [.row l2 false, .row (l ++ l2) false]) := by
  have := appS_grow (m := m ++ [.row l2 false]) (own_app ho _) hl hs (elemsS_one m h2) rfl (by omega) hb
  rw [this, set_app (own_lt ho)]
  simp
theorem appS_nils1 {m : Mem} {size bytes : Nat} {l2 : List AV} (h2 : l2.length = size) (hb : bytes ≤ 1099511627776) :
    aAppend size bytes .nils (.sl m.length 0 1 1 0) (m ++ [.row l2 false]) = some (.sl (m.length + 1) 0 1 1 size, m ++ [.row l2 false, .row l2 false]) := by
  have := appS_nils (m := m ++ [.row l2 false]) (bytes := bytes) (elemsS_one m h2) rfl (by omega) (by omega)
  rw [this]
  simp
theorem take_drop_tab {l : List B8} {a b n : Nat} (h : a = b) (hl : b + n ≤ l.length) : List.take n (List.drop a (bys l)) = bys (tab n fun i => gb l (b + i)) := by
  subst h
  apply List.ext_getElem?
  intro j
  by_cases hj : j < n
  · rw [List.getElem?_take_of_lt hj, List.getElem?_drop, bys_at (by omega), map_get (tab_get _ hj)]
  · rw [List.getElem?_eq_none (by simp; omega), List.getElem?_eq_none (by simp [tab_len]; omega)]
theorem own_sa (m : Mem) (b : Nat) (k : Blk) (e : Mem) (i : Nat) : own (m.set b k ++ e) (m.length + i) = own e i := by
  have := own_app_at (m.set b k) e i
  rwa [List.length_set] at this
theorem own_sa0 (m : Mem) (b : Nat) (k : Blk) (e : Mem) : own (m.set b k ++ e) m.length = own e 0 := own_sa m b k e 0
theorem rowOf_sa (m : Mem) (b : Nat) (k : Blk) (e : Mem) (i : Nat) : rowOf (m.set b k ++ e) (m.length + i) = rowOf e i := by
  have := rowOf_app_at (m.set b k) e i
  rwa [List.length_set] at this
theorem rowOf_sa0 (m : Mem) (b : Nat) (k : Blk) (e : Mem) : rowOf (m.set b k ++ e) m.length = rowOf e 0 := rowOf_sa m b k e 0
theorem set_sa (m : Mem) (b : Nat) (k : Blk) (e : Mem) (i : Nat) (k' : Blk) : (m.set b k ++ e).set (m.length + i) k' = m.set b k ++ e.set i k' := by
  have := set_app_at (m.set b k) e i k'
  rwa [List.length_set] at this
theorem set_sa0 (m : Mem) (b : Nat) (k : Blk) (e : Mem) (k' : Blk) : (m.set b k ++ e).set m.length k' = m.set b k ++ e.set 0 k' := set_sa m b k e 0 k'
theorem own_ssa (m : Mem) (a b : Nat) (j k : Blk) (e : Mem) (i : Nat) : own ((m.set a j).set b k ++ e) (m.length + i) = own e i := by
  have := own_sa (m.set a j) b k e i
  rwa [List.length_set] at this
theorem own_ssa0 (m : Mem) (a b : Nat) (j k : Blk) (e : Mem) : own ((m.set a j).set b k ++ e) m.length = own e 0 := own_ssa m a b j k e 0
/-- A block is written that may be. -/
theorem Kept.write {Y : List Nat} {m m2 : Mem} (h : Kept Y m m2) {q : Nat} (hq : q ∈ Y ∨ m.length ≤ q) (k : Blk) : Kept Y m (m2.set q k) :=
  ⟨by simpa using h.len, fun q' h1 h2 => by
    rw [List.getElem?_set_ne (by rintro rfl; rcases hq with h | h; exact h2 h; omega)]
    exact h.eq q' h1 h2⟩
theorem Kept.more_app {Y : List Nat} {m m2 : Mem} (h : Kept Y m m2) (e : Mem) : Kept Y m (m2 ++ e) := h.trans (.app _ _ _)
/-- A sequence's first part, and what is behind it. -/
def hdC : ACode → ACode
  | .seq a _ => a
  | c => c
def tlC : ACode → ACode
  | .seq _ b => b
  | c => c
def bodyC : ACode → ACode
  | .block _ a => a
  | .loop _ a => a
  | c => c
theorem wrap_u64 {x : Int} (h1 : 0 ≤ x) (h2 : x < 18446744073709551616) : IntKind.u64.wrap x = x := by
  have e1 : (2 : Int) ^ IntKind.u64.bits = 18446744073709551616 := by decide
  unfold IntKind.wrap
  simp only [e1, IntKind.signed, Bool.false_and, Bool.false_eq_true, if_false]
  omega
theorem wrap_u8 (n : Nat) : IntKind.u8.wrap (n : Int) = ((BitVec.ofNat 8 n).toNat : Int) := by rw [wr_u8, BitVec.ofInt_natCast]
theorem gb_app_l {a b : List B8} {i : Nat} (h : i < a.length) : gb (a ++ b) i = gb a i := by
  simp only [gb, List.getD_eq_getElem?_getD, List.getElem?_append_left h]
theorem gb_app_r {a b : List B8} {i : Nat} (h : a.length ≤ i) : gb (a ++ b) i = gb b (i - a.length) := by
  simp only [gb, List.getD_eq_getElem?_getD, List.getElem?_append_right h]
theorem tab_succ {α : Type} (n : Nat) (f : Nat → α) : tab (n + 1) f = tab n f ++ [f n] := by
  simp [tab, List.range_succ]
set_option linter.defProp false
def admP := And.intro own_ssa (And.intro own_ssa0 (And.intro own_sa (And.intro own_sa0 (And.intro rowOf_sa (And.intro rowOf_sa0 (And.intro set_sa (And.intro set_sa0 admO)))))))
end Go.Adm
