/- Lists that are told place by place; lists of bytes as cells. -/
import Derived.Test.YthdkclkiegkabaaAdmX
namespace Go.Adm

/-- A list, told place by place. -/
def tab {α : Type} (n : Nat) (f : Nat → α) : List α := (List.range n).map f
theorem tab_len {α : Type} (n : Nat) (f : Nat → α) : (tab n f).length = n := by simp [tab]
theorem tab_get {α : Type} {n i : Nat} (f : Nat → α) (h : i < n) : (tab n f)[i]? = some (f i) := by simp [tab, h]
theorem tab_ext {α : Type} {n : Nat} {f g : Nat → α} (h : ∀ i, i < n → f i = g i) : tab n f = tab n g := by
  unfold tab
  exact List.map_congr_left fun i hi => h i (List.mem_range.mp hi)
/-- A list of which the first i places are done. -/
def upTo {α : Type} (n : Nat) (f g : Nat → α) (i : Nat) : List α := tab n fun j => if j < i then f j else g j
theorem upTo_len {α : Type} (n : Nat) (f g : Nat → α) (i : Nat) : (upTo n f g i).length = n := tab_len _ _
theorem upTo_zero {α : Type} (n : Nat) (f g : Nat → α) : upTo n f g 0 = tab n g := tab_ext fun i _ => by simp
theorem upTo_all {α : Type} (n : Nat) (f g : Nat → α) : upTo n f g n = tab n f := tab_ext fun i h => by simp [h]
theorem upTo_get {α : Type} {n i j : Nat} {f g : Nat → α} (h : j < n) (hj : i ≤ j) : (upTo n f g i)[j]? = some (g j) := by
  rw [upTo, tab_get _ h, if_neg (by omega)]
theorem upTo_old {α : Type} {n i j : Nat} {f g : Nat → α} (h : j < n) (hj : j < i) : (upTo n f g i)[j]? = some (f j) := by
  rw [upTo, tab_get _ h, if_pos hj]
theorem upTo_set {α : Type} {n i : Nat} {f g : Nat → α} : (upTo n f g i).set i (f i) = upTo n f g (i + 1) := by
  apply List.ext_getElem?
  intro j
  by_cases hj : j < n
  · by_cases e : i = j
    · subst e
      rw [List.getElem?_set_self (by rw [upTo_len]; exact hj), upTo_old hj (by omega)]
    · rw [List.getElem?_set_ne e]
      by_cases hl : j < i
      · rw [upTo_old hj hl, upTo_old hj (by omega)]
      · rw [upTo_get hj (by omega), upTo_get hj (by omega)]
  · rw [List.getElem?_eq_none (by simp [upTo_len]; omega), List.getElem?_eq_none (by simp [upTo_len]; omega)]
theorem tab_const {α : Type} (n : Nat) (x : α) : tab n (fun _ => x) = List.replicate n x := by
  apply List.ext_getElem?
  intro j
  by_cases hj : j < n
  · rw [tab_get _ hj]; simp [hj]
  · rw [List.getElem?_eq_none (by simp [tab_len]; omega), List.getElem?_eq_none (by simp; omega)]

theorem map_get {α : Type} {c : α → AV} {l : List α} {i : Nat} {x : α} (h : l[i]? = some x) : (l.map c)[i]? = some (c x) := by simp [h]
theorem splice_map {α : Type} {c : α → AV} {l : List α} {i : Nat} {x : α} (h : i < l.length) : splice (l.map c) i [c x] = (l.set i x).map c := by
  rw [splice_one _ _ _ (by simpa using h), List.map_set]
theorem splice_all {c d : List AV} (h : d.length = c.length) : splice c 0 d = d := by
  unfold splice; simp [h]
theorem splice_upTo {α : Type} {c : α → AV} {n i : Nat} {f g : Nat → α} (h : i < n) : splice ((upTo n f g i).map c) i [c (f i)] = (upTo n f g (i + 1)).map c := by
  rw [splice_map (by rw [upTo_len]; exact h), upTo_set]
theorem upTo_map_get {α : Type} {c : α → AV} {n i : Nat} {f g : Nat → α} (h : i < n) : ((upTo n f g i).map c)[i]? = some (c (g i)) := map_get (upTo_get h (Nat.le_refl _))

/-! ### Bytes -/
abbrev B8 := BitVec 8
abbrev bys (l : List B8) : List AV := l.map b8
def gb (l : List B8) (i : Nat) : B8 := l.getD i 0
theorem gb_get {l : List B8} {i : Nat} (h : i < l.length) : l[i]? = some (gb l i) := by simp [gb, h]
theorem bys_get {l : List B8} {n i : Nat} (hl : l.length = n) (h : i < n) : (bys l)[i]? = some (b8 (gb l i)) := map_get (gb_get (by omega))
theorem bys_len (l : List B8) : (bys l).length = l.length := by simp
theorem tab_gb {l : List B8} {n : Nat} (h : l.length = n) : tab n (gb l) = l := by
  apply List.ext_getElem?
  intro j
  by_cases hj : j < n
  · rw [tab_get _ hj, gb_get (by omega)]
  · rw [List.getElem?_eq_none (by simp [tab_len]; omega), List.getElem?_eq_none (by omega)]
theorem gb_tab {n i : Nat} (f : Nat → B8) (h : i < n) : gb (tab n f) i = f i := by simp [gb, tab_get _ h]
theorem gb_ext {a b : List B8} (hl : a.length = b.length) (h : ∀ i, i < a.length → gb a i = gb b i) : a = b := by
  rw [← tab_gb (l := a) rfl, ← tab_gb (l := b) hl.symm]
  exact tab_ext h
theorem bys_rep (n : Nat) : List.replicate n (AV.int .u8 0) = bys (List.replicate n 0#8) := by simp
theorem bys_flat (l : List B8) : (bys l).all AV.flat = true := by simp [AV.flat]
theorem aEq_bys : ∀ (a b : List B8) {n : Nat}, a.length = n → b.length = n → aEqCells (List.replicate n .i) (bys a) (bys b) = some (a == b) := by
  intro a
  induction a with
  | nil => intro b n h1 h2; subst h1; cases b <;> simp_all [aEqCells]
  | cons x a ih =>
    intro b n h1 h2
    subst h1
    cases b with
    | nil => simp at h2
    | cons y b =>
      simp only [List.length_cons, Nat.add_right_cancel_iff] at h2
      have e := ih b rfl h2
      rw [List.length_cons, List.replicate_succ]
      show aEqCells (CK.i :: List.replicate a.length CK.i) (b8 x :: bys a) (b8 y :: bys b) = _
      rw [aEqCells, e]
      simp only [aEqCk, if_true, Option.bind_some, Option.map_some, bv_beq]
      rfl
theorem bys_inj {a b : List B8} (h : bys a = bys b) : a = b := by
  have : ∀ (x y : B8), b8 x = b8 y → x = y := fun x y h => by
    simp only [AV.int.injEq, true_and] at h
    exact BitVec.eq_of_toNat_eq (by omega)
  exact List.map_inj_right (fun x y => this x y) |>.mp h

/-- A memory that only grew. -/
theorem Kept.grow {m m' : Mem} (h : Kept [] m m') : ∃ e, m' = m ++ e := by
  refine ⟨m'.drop m.length, ?_⟩
  apply List.ext_getElem?
  intro j
  by_cases hj : j < m.length
  · rw [List.getElem?_append_left hj, h.eq j hj (by simp)]
  · rw [List.getElem?_append_right (by omega), List.getElem?_drop]
    congr 1; omega
theorem wrap_small {x : Int} (h1 : 0 ≤ x) (h2 : x < 4611686018427387904) : IntKind.i64.wrap x = x := wrap_i64 (by omega) (by omega)
theorem wrap_succ {i : Nat} (h : i < 2305843009213693952) : IntKind.i64.wrap ((i : Int) + 1) = ((i + 1 : Nat) : Int) := by
  rw [wrap_small (by omega) (by omega)]; omega
theorem own_app_2 (m e : Mem) : own (m ++ e) (m.length + 1 + 1) = own e 2 := own_app_at m e 2
theorem own_app_3 (m e : Mem) : own (m ++ e) (m.length + 1 + 1 + 1) = own e 3 := own_app_at m e 3
theorem own_app_4 (m e : Mem) : own (m ++ e) (m.length + 1 + 1 + 1 + 1) = own e 4 := own_app_at m e 4
theorem own_app_5 (m e : Mem) : own (m ++ e) (m.length + 1 + 1 + 1 + 1 + 1) = own e 5 := own_app_at m e 5
theorem rowOf_app_2 (m e : Mem) : rowOf (m ++ e) (m.length + 1 + 1) = rowOf e 2 := rowOf_app_at m e 2
theorem rowOf_app_3 (m e : Mem) : rowOf (m ++ e) (m.length + 1 + 1 + 1) = rowOf e 3 := rowOf_app_at m e 3
theorem rowOf_app_4 (m e : Mem) : rowOf (m ++ e) (m.length + 1 + 1 + 1 + 1) = rowOf e 4 := rowOf_app_at m e 4
theorem rowOf_app_5 (m e : Mem) : rowOf (m ++ e) (m.length + 1 + 1 + 1 + 1 + 1) = rowOf e 5 := rowOf_app_at m e 5
theorem set_app_2 (m e : Mem) (b : Blk) : (m ++ e).set (m.length + 1 + 1) b = m ++ e.set 2 b := set_app_at m e 2 b
theorem set_app_3 (m e : Mem) (b : Blk) : (m ++ e).set (m.length + 1 + 1 + 1) b = m ++ e.set 3 b := set_app_at m e 3 b
theorem set_app_4 (m e : Mem) (b : Blk) : (m ++ e).set (m.length + 1 + 1 + 1 + 1) b = m ++ e.set 4 b := set_app_at m e 4 b
theorem set_app_5 (m e : Mem) (b : Blk) : (m ++ e).set (m.length + 1 + 1 + 1 + 1 + 1) b = m ++ e.set 5 b := set_app_at m e 5 b
theorem len_map {α : Type} (c : α → AV) (l : List α) : (l.map c).length = l.length := List.length_map ..
theorem tmod_nat (a b : Nat) : ((a : Nat) : Int).tmod (no_index (OfNat.ofNat b) : Int) = ((a % b : Nat) : Int) := rfl
theorem tdiv_nat (a b : Nat) : ((a : Nat) : Int).tdiv (no_index (OfNat.ofNat b) : Int) = ((a / b : Nat) : Int) := rfl
set_option linter.defProp false
/-- The rules for bytes, as one; with those of all walks. -/
def admB := And.intro @own_app_2 (And.intro @own_app_3 (And.intro @own_app_4 (And.intro @own_app_5 (And.intro @rowOf_app_2 (And.intro @rowOf_app_3 (And.intro @rowOf_app_4 (And.intro @rowOf_app_5
  (And.intro @set_app_2 (And.intro @set_app_3 (And.intro @set_app_4 (And.intro @set_app_5 (And.intro @xor_vv_u8 (And.intro @xor_vl_u8 (And.intro @xor_lv_u8 (And.intro @and_vv_u8 (And.intro @and_vl_u8 (And.intro @and_lv_u8
  (And.intro @or_vv_u8 (And.intro @or_vl_u8 (And.intro @or_lv_u8 (And.intro @shl_u8 (And.intro @shr_u8 (And.intro @Int.toNat_natCast (And.intro @len_map (And.intro (@upTo_len B8) (And.intro (@tab_len B8) (And.intro @bv_beq adm)))))))))))))))))))))))))))
end Go.Adm
