/- Whole numbers as bytes. -/
import Derived.Test.YthdkclkiegkabaaAdmd
namespace Go.Adm

theorem fdiv_nat {v k : Nat} (h : v < 18446744073709551616) : ((v : Nat) : Int).fdiv (2 ^ Nat.min k IntKind.u64.bits) = ((v >>> k : Nat) : Int) := by
  have e := fdiv_two (BitVec.ofNat 64 v) k
  rw [BitVec.toNat_ofNat, Nat.mod_eq_of_lt h, BitVec.toNat_ushiftRight, BitVec.toNat_ofNat, Nat.mod_eq_of_lt h] at e
  exact e
theorem fdiv_nat' {v k : Nat} (h : v < 18446744073709551616) : ((v : Nat) : Int).fdiv (2 ^ Nat.min k IntKind.i64.bits) = ((v >>> k : Nat) : Int) := fdiv_nat h
/-- A whole number as 64 bits. -/
def e64 (x : Int) : Nat := (BitVec.ofInt 64 x).toNat
theorem e64_lt (x : Int) : e64 x < 18446744073709551616 := (BitVec.ofInt 64 x).isLt
theorem e64_wrap (x : Int) : IntKind.u64.wrap x = ((e64 x : Nat) : Int) := wr_u64 x
theorem e64_nat {n : Nat} (h : n < 18446744073709551616) : e64 (n : Int) = n := by
  rw [e64, BitVec.ofInt_natCast, BitVec.toNat_ofNat, Nat.mod_eq_of_lt h]
/-- Byte k of a number, from the lowest on. -/
def byV (v k : Nat) : B8 := BitVec.ofNat 8 (v >>> (8 * k))
/-- A number's lowest n bytes, the highest first. -/
def lowB (v n : Nat) : List B8 := tab n fun i => byV v (n - 1 - i)
theorem lowB_len (v n : Nat) : (lowB v n).length = n := tab_len _ _
/-- Bytes of which some, from o on, are a number's: the first i are done. -/
def putUp (X : List B8) (o n v i : Nat) : List B8 := tab X.length fun j => if o ≤ j ∧ j < o + i then byV v (n - 1 - (j - o)) else gb X j
theorem putUp_len (X : List B8) (o n v i : Nat) : (putUp X o n v i).length = X.length := tab_len _ _
theorem putUp_zero (X : List B8) (o n v : Nat) : putUp X o n v 0 = X := by
  rw [← tab_gb (l := X) rfl, putUp, tab_len]
  exact tab_ext fun j _ => by rw [if_neg (by omega), tab_gb rfl]
theorem putUp_set {X : List B8} {o n v i : Nat} (_hi : o + i < X.length) : (putUp X o n v i).set (o + i) (byV v (n - 1 - i)) = putUp X o n v (i + 1) := by
  apply List.ext_getElem?
  intro j
  by_cases hj : j < X.length
  · by_cases e : o + i = j
    · subst e
      rw [List.getElem?_set_self (by rw [putUp_len]; exact hj), putUp, tab_get _ hj, if_pos (by omega), show o + i - o = i by omega]
    · rw [List.getElem?_set_ne e, putUp, putUp, tab_get _ hj, tab_get _ hj]
      by_cases hc : o ≤ j ∧ j < o + i
      · rw [if_pos hc, if_pos (by omega)]
      · rw [if_neg hc, if_neg (by omega)]
  · rw [List.getElem?_eq_none (by simp [putUp_len]; omega), List.getElem?_eq_none (by simp [putUp_len]; omega)]
theorem putUp_all {a b c : List B8} {o n v : Nat} (ha : a.length = o) (hb : b.length = n) : putUp (a ++ b ++ c) o n v n = a ++ lowB v n ++ c := by
  apply gb_ext
  · simp [putUp_len, lowB_len, hb]
  · intro j hj
    rw [putUp_len] at hj
    rw [putUp, gb_tab _ hj]
    simp only [List.length_append] at hj
    by_cases h1 : j < o
    · rw [if_neg (by omega), List.append_assoc, List.append_assoc, gb_app_l (by omega), gb_app_l (by omega)]
    · by_cases h2 : j < o + n
      · rw [if_pos (by omega), List.append_assoc, gb_app_r (by omega), gb_app_l (by rw [lowB_len]; omega), ha, lowB, gb_tab _ (by omega)]
      · rw [if_neg (by omega), gb_app_r (by simp; omega), gb_app_r (by simp [lowB_len]; omega)]
        congr 1
        simp [lowB_len, hb]
theorem rowOf_set {m : Mem} {p : Nat} (h : p < m.length) (c : List AV) (r : Bool) : rowOf (m.set p (.row c r)) p = some c := by
  unfold rowOf; rw [List.getElem?_set_self h]
theorem set_app_l {m : Mem} {p : Nat} (h : p < m.length) (e : Mem) (b : Blk) : (m ++ e).set p b = m.set p b ++ e := set_app h e b
theorem own_app_l {m : Mem} {p : Nat} (h : p < m.length) (e : Mem) : own (m ++ e) p = own m p := by
  unfold own; rw [List.getElem?_append_left h]
theorem rowOf_app_l {m : Mem} {p : Nat} (h : p < m.length) (e : Mem) : rowOf (m ++ e) p = rowOf m p := by
  unfold rowOf; rw [List.getElem?_append_left h]
theorem set_tab {α : Type} (n i : Nat) (f : Nat → α) (v : α) : (tab n f).set i v = tab n fun t => if t = i then v else f t := by
  apply List.ext_getElem?
  intro j
  by_cases hj : j < n
  · by_cases e : i = j
    · subst e
      rw [List.getElem?_set_self (by rw [tab_len]; exact hj), tab_get _ hj, if_pos rfl]
    · rw [List.getElem?_set_ne e, tab_get _ hj, tab_get _ hj, if_neg (by omega)]
  · rw [List.getElem?_eq_none (by simp [tab_len]; omega), List.getElem?_eq_none (by simp [tab_len]; omega)]
theorem take_gb {l : List B8} {i : Nat} (h : i < l.length) : l.take (i + 1) = l.take i ++ [gb l i] := by
  rw [List.take_add_one, gb_get h]; rfl
/-- Appending to a slice that is full, and whose room is known: a new block. -/
theorem app_full0 {m : Mem} {b o n : Nat} {x : AV} {l l2 : List B8} (h : RdB m (.sl b o n n 0) l) (hy : RdB m x l2) (hp : 0 < l2.length) (hb : n + l2.length ≤ 1099511627776) :
    aAppend 1 1 (.sl b o n n 0) x m = some (.sl m.length 0 (n + l2.length) (n + l2.length) 1, m ++ [.row (bys (l ++ l2)) false]) := by
  have hn := h.length
  have he := h.elems
  rw [hn] at he
  unfold aAppend
  simp only [hy.lenA, Option.bind_some, if_neg (show ¬ l2.length = 0 by omega), hy.elems, if_neg (show ¬ n + l2.length ≤ n by omega), Nat.mul_one, if_pos (show n + l2.length ≤ 1099511627776 ∧ n + l2.length ≤ 1099511627776 from ⟨hb, hb⟩), he]
  simp
theorem flat_cells {v : AV} (h : v.flat = true) : cellsV v = [v] ∧ v.solid = true := by
  cases v <;> first | exact ⟨rfl, rfl⟩ | cases h
theorem aFill_from : ∀ (vs d rest : List AV), rest.length = vs.length → vs.all AV.flat = true → aFill (d ++ rest) ((List.range' d.length vs.length).map fun i => (i, 1)) vs = some (d ++ vs) := by
  intro vs
  induction vs with
  | nil => intro d rest h _; cases rest with
    | nil => rfl
    | cons => cases h
  | cons v vs ih =>
    intro d rest h hf
    cases rest with
    | nil => cases h
    | cons r rest =>
      simp only [List.all_cons, Bool.and_eq_true] at hf
      obtain ⟨hc, hs⟩ := flat_cells hf.1
      have e : splice (d ++ r :: rest) d.length [v] = (d ++ [v]) ++ rest := by simp [splice, ← List.drop_drop]
      have := ih (d ++ [v]) rest (by simpa using h) hf.2
      rw [List.length_append, List.length_singleton] at this
      simp only [List.length_cons, List.range'_succ, List.map_cons, aFill, hc, hs, List.length_nil]
      rw [if_pos (by simp), e, this]
      simp
/-- A list that is told place by place. -/
theorem aFill_all {z vs : List AV} {ps : List (Nat × Nat)} (h : z.length = vs.length) (hp : ps = (List.range' 0 vs.length).map fun i => (i, 1)) (hf : vs.all AV.flat = true) : aFill z ps vs = some vs := by
  rw [hp]; exact aFill_from vs [] z h hf
set_option linter.defProp false
/-- Rules for blocks at places that are known to be apart. -/
def apart := And.intro @own_set (And.intro @rowOf_set (And.intro @own_set_ne (And.intro @rowOf_set_ne (And.intro @set_app_l (And.intro @own_app_l @rowOf_app_l)))))
end Go.Adm
