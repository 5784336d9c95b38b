/- What each step of a table does to a row: plain Lean. -/
import Derived.Test.YtbbjimdpkcgonabUsU
namespace Go.Proofs.Ytbbjimdpkcgonab
open Go Go.Adm
set_option linter.unusedSimpArgs false
set_option linter.unusedVariables false

def errM (o : Opv) (l : List Sg) : Int :=
  if o.kind = 0 then (setM o.seg o.x l).1 else if o.kind = 1 then (if (takeM o.now l).2.1 then 0 else 9) else if o.kind = 2 then (addM o.seg o.n o.now l).1 else if o.kind = 3 then (pendM o.seg l).1 else 0

theorem err_same (o : Opv) (l : List Sg) (h : errM o l ≠ 0) : stepM o l = l := by
  unfold errM at h
  unfold stepM
  split
  · rename_i hk; rw [if_pos hk] at h
    unfold setM at *
    split
    · split
      · rfl
      · rename_i h1 h2; rw [if_pos h1, if_neg h2] at h; exact absurd rfl h
    · rfl
  · rename_i hk; rw [if_neg hk] at h
    split
    · rename_i hk; rw [if_pos hk] at h
      unfold takeM at *
      split
      · rename_i h0; rw [if_pos h0] at h; simp at h
      · rfl
    · rename_i hk; rw [if_neg hk] at h
      split
      · rename_i hk; rw [if_pos hk] at h
        unfold addM at *
        split
        · rename_i h0; rw [if_pos h0] at h
          split
          · rename_i x hx; rw [hx] at h
            simp only at h
            split
            · rfl
            · rename_i h1; rw [if_neg h1] at h
              split
              · rfl
              · rename_i h2; rw [if_neg h2] at h; exact absurd rfl h
          · rfl
        · rfl
      · rename_i hk; rw [if_neg hk] at h
        split
        · rename_i hk; rw [if_pos hk] at h
          unfold pendM at *
          split
          · rename_i h0; rw [if_pos h0] at h
            split
            · rename_i x hx; rw [hx] at h
              simp only at h
              split
              · rename_i h1; rw [if_pos h1] at h; exact absurd rfl h
              · rfl
            · rfl
          · rfl
        · rename_i hk; rw [if_neg hk] at h; exact absurd rfl h

theorem one_count {l : List Sg} (h : OneOpen l) : l.countP (·.st == 1) ≤ 1 := by
  induction l with
  | nil => simp
  | cons a l ih =>
    rw [List.countP_cons]
    have := ih h.tail
    split
    · rename_i ha
      have : l.countP (·.st == 1) = 0 := by
        rw [List.countP_eq_zero]
        intro x hx hx1
        obtain ⟨j, hj⟩ := List.getElem?_of_mem hx
        have := h 0 (j + 1) a x rfl (by simpa using hj) (by simpa using ha) (by simpa using hx1)
        omega
      omega
    · omega
theorem idx_count (s : Int) (l : List Sg) : idxOf s l < 0 ↔ l.countP (·.st == s) = 0 := by
  induction l with
  | nil => simp [idxOf]
  | cons a l ih =>
    rw [idxOf_cons, List.countP_cons]
    cases ha : a.st == s
    · simp only [Bool.false_eq_true, if_false, Nat.add_zero]
      rw [← ih]
      by_cases hc : 0 ≤ idxOf s l
      · rw [if_pos hc]; omega
      · rw [if_neg hc]; omega
    · simp
theorem sum_count {l : List Sg} (h : ∀ x ∈ l, x.ok) : l.countP (·.st == 0) + l.countP (·.st == 1) + l.countP (·.st == 2) + l.countP (·.st == 3) = l.length := by
  induction l with
  | nil => rfl
  | cons a l ih =>
    have := ih fun x hx => h x (by simp [hx])
    have hs := (h a (by simp)).1
    simp only [List.countP_cons, List.length_cons]
    have : a.st = 0 ∨ a.st = 1 ∨ a.st = 2 ∨ a.st = 3 := by omega
    rcases this with e | e | e | e <;> simp [e] <;> omega

/-- A row's way. -/
def Way (o : Opv) (l : List Sg) (k : Nat) (x y : Sg) : Prop :=
  (y.st = x.st ∨ (o.kind = 1 ∧ x.st = 1 ∧ y.st = 2) ∨ (o.kind = 1 ∧ x.st = 0 ∧ y.st = 1 ∧ ∀ (j : Nat) (z : Sg), j < k → l[j]? = some z → z.st ≠ 0) ∨
    (o.kind = 3 ∧ x.st = 2 ∧ y.st = 3 ∧ o.seg = k ∧ x.lv = 0) ∨ (o.kind = 4 ∧ x.st = 3 ∧ y.st = 0)) ∧ (o.kind = 4 → y.st ≠ 3)
theorem way_step {o : Opv} {l : List Sg} (hg : Good l) (h0 : o.kind ≠ 0) {k : Nat} {x y : Sg} (hx : l[k]? = some x) (hy : (stepM o l)[k]? = some y) : Way o l k x y := by
  have keep : o.kind ≠ 4 → stepM o l = l → Way o l k x y := by
    intro h4 hs
    rw [hs, hx] at hy; cases hy
    exact ⟨.inl rfl, fun h => absurd h h4⟩
  by_cases h1 : o.kind = 1
  · have hs : stepM o l = (takeM o.now l).2.2 := by unfold stepM; rw [if_neg h0, if_pos h1]
    by_cases hf : 0 ≤ idxOf 0 l
    · rw [hs, takeM_shut hg.one _ hf] at hy
      simp only at hy
      refine ⟨?_, fun h => by omega⟩
      rcases get_set_cases hy with ⟨ek, ey⟩ | ⟨_, hy'⟩
      · obtain ⟨z, hz, hz0, _, _⟩ := idxOf_found hf
        rw [← ek, hx] at hz; cases hz
        refine .inr (.inr (.inl ⟨h1, hz0, by rw [ey], fun j z hj hz hz1 => ?_⟩))
        have := idxOf_le hz hz1
        omega
      · simp only [List.getElem?_map, hx, Option.map_some, Option.some.injEq] at hy'
        subst hy'
        unfold shutF
        cases hb : x.st == 1
        · exact .inl rfl
        · exact .inr (.inl ⟨h1, by simpa using hb, rfl⟩)
    · refine keep (by omega) ?_
      rw [hs]; unfold takeM; rw [if_neg hf]
  · by_cases h2 : o.kind = 2
    · have hs : stepM o l = (addM o.seg o.n o.now l).2 := by unfold stepM; rw [if_neg h0, if_neg h1, if_pos h2]
      rw [hs] at hy
      refine ⟨.inl ?_, fun h => by omega⟩
      unfold addM at hy
      split at hy
      · split at hy
        · rename_i z hz
          split at hy
          · rw [hx] at hy; cases hy; rfl
          · split at hy
            · rw [hx] at hy; cases hy; rfl
            · rcases get_set_cases hy with ⟨ek, ey⟩ | ⟨_, hy'⟩
              · rw [← ek, hx] at hz; cases hz
                rw [ey]; split <;> rfl
              · rw [hx] at hy'; cases hy'; rfl
        · rw [hx] at hy; cases hy; rfl
      · rw [hx] at hy; cases hy; rfl
    · by_cases h3 : o.kind = 3
      · have hs : stepM o l = (pendM o.seg l).2 := by unfold stepM; rw [if_neg h0, if_neg h1, if_neg h2, if_pos h3]
        rw [hs] at hy
        refine ⟨?_, fun h => by omega⟩
        unfold pendM at hy
        split at hy
        · rename_i hr
          split at hy
          · rename_i z hz
            split at hy
            · rename_i hc
              rcases get_set_cases hy with ⟨ek, ey⟩ | ⟨_, hy'⟩
              · rw [← ek, hx] at hz; cases hz
                simp at hc
                exact .inr (.inr (.inr (.inl ⟨h3, hc.1, by rw [ey], by omega, hc.2⟩)))
              · rw [hx] at hy'; cases hy'; exact .inl rfl
            · rw [hx] at hy; cases hy; exact .inl rfl
          · rw [hx] at hy; cases hy; exact .inl rfl
        · rw [hx] at hy; cases hy; exact .inl rfl
      · by_cases h4 : o.kind = 4
        · have hs : stepM o l = relM l := by unfold stepM; rw [if_neg h0, if_neg h1, if_neg h2, if_neg h3, if_pos h4]
          rw [hs] at hy
          unfold relM at hy
          simp only [List.getElem?_map, hx, Option.map_some, Option.some.injEq] at hy
          subst hy
          cases hb : x.st == 3
          · have hb' : x.st ≠ 3 := by simpa using hb
            exact ⟨.inl rfl, fun _ => hb'⟩
          · exact ⟨.inr (.inr (.inr (.inr ⟨h4, by simpa using hb, rfl⟩))), fun _ => by simp⟩
        · refine keep h4 ?_
          unfold stepM; rw [if_neg h0, if_neg h1, if_neg h2, if_neg h3, if_neg h4]
end Go.Proofs.Ytbbjimdpkcgonab
