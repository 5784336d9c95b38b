/- The main theorem on regions that draw their order. -/
import Derived.Test.YthdkclkiegkabaaAdmM
namespace Go.Adm

/-- What the check of a region gives. -/
structure Sched (P : Program) (n : Nat) (ops : Array Oper) (l : List AOper) (B : Nat → Nat) : Prop where
  len : l.length = ops.size
  op : ∀ (i : Nat) (o : AOper), l[i]? = some o → ∃ co, ops[i]? = some co ∧ ckOper P n ops.toList co o.lo o.hi = some o
  edge : ∀ (i : Nat) (co : Oper), ops[i]? = some co → ∀ e ∈ co.after, Region.binds .any e = true → e.on < i
  bef : ∀ (i : Nat) (co : Oper), ops[i]? = some co → ∀ x, (B i).testBit x = true → ∃ e ∈ co.after, Region.binds .any e = true ∧ (x = e.on ∨ (B e.on).testBit x = true)
  ord : ∀ (p i : Nat) (a o : AOper), p < i → l[p]? = some a → l[i]? = some o → clash a o = true → (B i).testBit p = true
  lo : ∀ (i : Nat) (o : AOper), l[i]? = some o → ∀ c, (∀ (q : Nat) (a : AOper), l[q]? = some a → a.k.loud = true → (B i).testBit q = true → q < c) → o.lo ≤ loudIn l c
  hi : ∀ (i : Nat) (o : AOper), l[i]? = some o → ∀ c, (∀ (q : Nat) (a : AOper), l[q]? = some a → a.k.loud = true → q < c → (B q).testBit i = false) → loudIn l c ≤ o.hi

section
variable {P : Program} {n : Nat} {ops : Array Oper} {l : List AOper} {B : Nat → Nat} {T : Nat → AFr} {M : Nat → Mem} {V : Nat → AV}

def loudAt (l : List AOper) (i : Nat) : Prop := ∃ o, l[i]? = some o ∧ o.k.loud = true

theorem next_loud (l : List AOper) : ∀ (d a : Nat), l.length - a = d → a ≤ l.length → ∃ p, a ≤ p ∧ p ≤ l.length ∧ (p = l.length ∨ loudAt l p) ∧ ∀ x, a ≤ x → x < p → ¬ loudAt l x := by
  intro d
  induction d with
  | zero => intro a h h2; exact ⟨a, Nat.le_refl _, h2, .inl (by omega), fun x h1 h2 => by omega⟩
  | succ d ih =>
    intro a h h2
    by_cases hl : loudAt l a
    · exact ⟨a, Nat.le_refl _, h2, .inr hl, fun x h1 h2 => by omega⟩
    · obtain ⟨p, g1, g2, g3, g4⟩ := ih (a + 1) (by omega) (by omega)
      refine ⟨p, by omega, g2, g3, fun x hx1 hx2 => ?_⟩
      by_cases e : x = a
      · subst e; exact hl
      · exact g4 x (by omega) hx2

theorem last_loud (l : List AOper) (a : Nat) : ∀ (p : Nat), a ≤ p → (∀ x, a ≤ x → x < p → ¬ loudAt l x) ∨ ∃ r, a ≤ r ∧ r < p ∧ loudAt l r ∧ ∀ x, r < x → x < p → ¬ loudAt l x := by
  intro p
  induction p with
  | zero => intro _; exact .inl fun x _ h => by omega
  | succ p ih =>
    intro h
    by_cases hl : a ≤ p ∧ loudAt l p
    · exact .inr ⟨p, hl.1, Nat.lt_succ_self _, hl.2, fun x h1 h2 => by omega⟩
    · by_cases hap : a ≤ p
      · rcases ih hap with g | ⟨r, g1, g2, g3, g4⟩
        · refine .inl fun x h1 h2 => ?_
          by_cases e : x = p
          · subst e; exact fun hx => hl ⟨hap, hx⟩
          · exact g x h1 (by omega)
        · refine .inr ⟨r, g1, by omega, g3, fun x h1 h2 => ?_⟩
          by_cases e : x = p
          · subst e; exact fun hx => hl ⟨hap, hx⟩
          · exact g4 x h1 (by omega)
      · exact .inl fun x h1 h2 => by omega

theorem loudIn_succ {i : Nat} {o : AOper} (h : l[i]? = some o) : loudIn l (i + 1) = loudIn l i + (if o.k.loud then 1 else 0) := by
  simp only [loudIn]
  rw [List.take_add_one, h]
  simp only [Option.toList_some, List.filter_append, List.length_append, List.filter_cons, List.filter_nil]
  split <;> simp
theorem loudIn_none {a : Nat} : ∀ (p : Nat), a ≤ p → p ≤ l.length → (∀ x, a ≤ x → x < p → ¬ loudAt l x) → loudIn l p = loudIn l a := by
  intro p
  induction p with
  | zero => intro h _ _; obtain rfl : a = 0 := (by omega); rfl
  | succ p ih =>
    intro h hp hx
    by_cases e : a = p + 1
    · rw [e]
    · have hlt : p < l.length := by omega
      have ho : l[p]? = some l[p] := by simp [hlt]
      rw [loudIn_succ ho, ih (by omega) (by omega) (fun x h1 h2 => hx x h1 (by omega))]
      have : l[p].k.loud = false := by
        have := hx p (by omega) (Nat.lt_succ_self _)
        simpa [loudAt, ho] using this
      simp [this]

section
variable (R : Run P l 0 [] [] T M V)
include R

theorem Run.astep {i : Nat} (hi : i < l.length) : AStep (M i) (M (i + 1)) := (R.step i l[i] (by simp [hi])).1.astep
theorem Run.asteps {i : Nat} : ∀ (j : Nat), i ≤ j → j ≤ l.length → AStep (M i) (M j) := by
  intro j
  induction j with
  | zero => intro h _; obtain rfl : i = 0 := (by omega); exact .refl _
  | succ j ih =>
    intro h hj
    by_cases e : i = j + 1
    · subst e; exact .refl _
    · exact (ih (by omega) (by omega)).trans (R.astep (by omega))

/-- Quiet operations put blocks behind, or nothing. -/
theorem Run.quiet {i : Nat} (hi : i < l.length) (hq : ¬ loudAt l i) : M (i + 1) = M i ∨ ∃ b, M (i + 1) = M i ++ [b] := by
  have ho : l[i]? = some l[i] := by simp [hi]
  have hnl : l[i].k.loud = false := by simpa [loudAt, ho] using hq
  have := (R.step i l[i] ho).1
  generalize M (i + 1) = m' at *
  generalize V i = v at this
  cases this with
  | no => exact .inl rfl
  | yes _ _ hop =>
    generalize hk : l[i].k = k at *
    cases hop with
    | pure => exact .inl rfl
    | read => exact .inl rfl
    | make => exact .inr ⟨_, rfl⟩
    | write h => simp [AK.loud, h] at hnl
    | call => simp [AK.loud, AK.cls] at hnl
    | callv => simp [AK.loud, AK.cls] at hnl
theorem Run.quiets {i : Nat} : ∀ (j : Nat), i ≤ j → j ≤ l.length → (∀ x, i ≤ x → x < j → ¬ loudAt l x) → ∃ e, M j = M i ++ e := by
  intro j
  induction j with
  | zero => intro h _ _; obtain rfl : i = 0 := (by omega); exact ⟨[], by simp⟩
  | succ j ih =>
    intro h hj hx
    by_cases e : i = j + 1
    · subst e; exact ⟨[], by simp⟩
    · obtain ⟨e, he⟩ := ih (by omega) (by omega) (fun x h1 h2 => hx x h1 (by omega))
      rcases R.quiet (i := j) (by omega) (hx j (by omega) (Nat.lt_succ_self _)) with g | ⟨b, g⟩
      · exact ⟨e, by rw [g, he]⟩
      · exact ⟨e ++ [b], by rw [g, he]; simp⟩

/-- Who wrote a temporary last. -/
theorem Run.frame {x : Nat} {v : AV} : ∀ (i : Nat), i ≤ l.length → (T i).get x = some v →
    (∃ j o, j < i ∧ l[j]? = some o ∧ o.dst = some x ∧ v = V j ∧ ∀ j' o', j < j' → j' < i → l[j']? = some o' → o'.dst ≠ some x) ∨
    ((∀ j o, j < i → l[j]? = some o → o.dst ≠ some x) ∧ (T 0).get x = some v) := by
  intro i
  induction i with
  | zero => intro _ h; exact .inr ⟨fun j o h => by omega, h⟩
  | succ i ih =>
    intro hi h
    have ho : l[i]? = some l[i] := by simp [show i < l.length by omega]
    rw [(R.step i l[i] ho).2] at h
    by_cases hd : l[i].dst = some x
    · rw [hd] at h
      simp only [AFr.put, AFr.get_set, if_true, Option.some.injEq] at h
      exact .inl ⟨i, l[i], Nat.lt_succ_self _, ho, hd, h.symm, fun j' o' h1 h2 => by omega⟩
    · have h' : (T i).get x = some v := by
        cases hdd : l[i].dst with
        | none => rw [hdd] at h; exact h
        | some y =>
          rw [hdd] at h
          simp only [AFr.put, AFr.get_set] at h
          rw [if_neg (fun e => hd (by rw [hdd, e]))] at h
          exact h
      rcases ih (by omega) h' with ⟨j, o, g1, g2, g3, g4, g5⟩ | ⟨g1, g2⟩
      · refine .inl ⟨j, o, by omega, g2, g3, g4, fun j' o' h1 h2 h3 => ?_⟩
        by_cases e : j' = i
        · subst e; rw [ho] at h3; cases h3; exact hd
        · exact g5 j' o' h1 (by omega) h3
      · refine .inr ⟨fun j o h1 h2 => ?_, g2⟩
        by_cases e : j = i
        · subst e; rw [ho] at h2; cases h2; exact hd
        · exact g1 j o (by omega) h2
end

/-- Which block an operation that makes one makes. -/
def Makes (l : List AOper) (T : Nat → AFr) (M : Nat → Mem) (i : Nat) (b : Blk) : Prop :=
  ∃ o, l[i]? = some o ∧ o.k.cls = .make ∧ wantedA o.g (T i) = some true ∧ M (i + 1) = M i ++ [b]

open Classical in
/-- What a block holds that an operation of the region makes, at its making. -/
noncomputable def initB (l : List AOper) (T : Nat → AFr) (M : Nat → Mem) (x : Nat) : Option Blk :=
  if h : ∃ b i, Makes l T M i b ∧ (M i).length = x then some h.choose else none
/-- The memory when the loud operations before place p are done. -/
noncomputable def memAt (l : List AOper) (T : Nat → AFr) (M : Nat → Mem) (p : Nat) (x : Nat) : Option Blk :=
  if x < (M p).length then (M p)[x]? else initB l T M x

section
variable (R : Run P l 0 [] [] T M V)
include R

omit R in
theorem Makes.lt {i : Nat} {b : Blk} (h : Makes l T M i b) : i < l.length := by
  obtain ⟨o, h, _⟩ := h
  exact lt_of_get h

theorem Makes.uniq {i j : Nat} {b c : Blk} (h : Makes l T M i b) (k : Makes l T M j c) (he : (M i).length = (M j).length) : b = c := by
  have hi := h.lt
  have hj := k.lt
  rcases Nat.lt_trichotomy i j with g | g | g
  · have := (R.asteps (i := i + 1) j (by omega) (by omega)).len
    obtain ⟨o, _, _, _, e⟩ := h
    rw [e] at this; simp at this; omega
  · subst g
    obtain ⟨_, _, _, _, e⟩ := h
    obtain ⟨_, _, _, _, e2⟩ := k
    rw [e] at e2
    simpa using e2
  · have := (R.asteps (i := j + 1) i (by omega) (by omega)).len
    obtain ⟨o, _, _, _, e⟩ := k
    rw [e] at this; simp at this; omega

theorem initB_of {i : Nat} {b : Blk} (h : Makes l T M i b) : initB l T M (M i).length = some b := by
  unfold initB
  have hex : ∃ b' j, Makes l T M j b' ∧ (M j).length = (M i).length := ⟨b, i, h, rfl⟩
  rw [dif_pos hex]
  obtain ⟨j, hj, he⟩ := hex.choose_spec
  rw [hj.uniq R h he]

/-- Blocks that quiet operations put there. -/
theorem quiet_init {i : Nat} : ∀ (j : Nat), i ≤ j → j ≤ l.length → (∀ x, i ≤ x → x < j → ¬ loudAt l x) → ∀ x, (M i).length ≤ x → x < (M j).length → (M j)[x]? = initB l T M x := by
  intro j
  induction j with
  | zero => intro h _ _ x h1 h2; obtain rfl : i = 0 := (by omega); omega
  | succ j ih =>
    intro h hj hx x h1 h2
    by_cases e : i = j + 1
    · subst e; omega
    · have ho : l[j]? = some l[j] := by simp [show j < l.length by omega]
      have hq := hx j (by omega) (Nat.lt_succ_self _)
      rcases R.quiet (i := j) (by omega) hq with g | ⟨b, g⟩
      · rw [g] at h2 ⊢
        exact ih (by omega) (by omega) (fun x h1 h2 => hx x h1 (by omega)) x h1 h2
      · by_cases hxl : x < (M j).length
        · rw [g, List.getElem?_append_left hxl]
          exact ih (by omega) (by omega) (fun x h1 h2 => hx x h1 (by omega)) x h1 hxl
        · rw [g] at h2
          simp at h2
          obtain rfl : x = (M j).length := by omega
          have hmk : Makes l T M j b := by
            have hst := (R.step j l[j] ho).1
            have hnl : l[j].k.loud = false := by simpa [loudAt, ho] using hq
            rw [g] at hst
            have hne : M j ≠ M j ++ [b] := by intro e; have := congrArg List.length e; simp at this
            refine ⟨l[j], ho, ?_, ?_, g⟩
            · generalize hm' : M j ++ [b] = m' at hst hne
              generalize V j = v at hst
              cases hst with
              | no => exact absurd rfl hne
              | yes _ _ hop =>
                generalize hk : l[j].k = k at *
                cases hop with
                | pure => exact absurd rfl hne
                | read => exact absurd rfl hne
                | make h => exact h
                | write h => simp [AK.loud, h] at hnl
                | call => simp [AK.loud, AK.cls] at hnl
                | callv => simp [AK.loud, AK.cls] at hnl
            · generalize hm' : M j ++ [b] = m' at hst hne
              generalize V j = v at hst
              cases hst with
              | no => exact absurd rfl hne
              | yes h _ _ => exact h
          rw [g, get_append_self, initB_of R hmk]
end
end
end Go.Adm
