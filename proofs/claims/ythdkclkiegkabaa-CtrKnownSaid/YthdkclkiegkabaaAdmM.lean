/- Regions that draw their order: every order comes to what the text's order comes to. -/
import Derived.Test.YthdkclkiegkabaaAdmL
namespace Go.Adm

/-- How a memory, given block by block, lies in the world. -/
structure SimF (μ : Nat → Option Blk) (ρ : LMap) (w : World) : Prop where
  lt : ∀ b L, ρ b = some L → L.blk < w.heap.size
  row : ∀ b L cells r, ρ b = some L → μ b = some (.row cells r) → RowAt ρ w L cells r
  map : ∀ b L es clock, ρ b = some L → μ b = some (.map es clock) → MapAt ρ w L es clock
  apart : ∀ b1 b2 L1 L2 k1 k2, b1 ≠ b2 → ρ b1 = some L1 → ρ b2 = some L2 → μ b1 = some k1 → μ b2 = some k2 →
    k1.live = true → k2.live = true → (k1.fixed = false ∨ k2.fixed = false) → L1.blk ≠ L2.blk

theorem Sim.toF {m : Mem} {ρ : LMap} {w : World} (h : Sim m ρ w) : SimF (fun b => m[b]?) ρ w := ⟨h.lt, h.row, h.map, h.apart⟩
theorem SimF.to {m : Mem} {ρ : LMap} {w : World} (h : SimF (fun b => m[b]?) ρ w) : Sim m ρ w := ⟨h.lt, h.row, h.map, h.apart⟩

theorem SimF.transfer {μ μ' : Nat → Option Blk} {ρ : LMap} {w : World} (h : SimF μ ρ w) (ht : ∀ b L k, ρ b = some L → μ' b = some k → k.live = true → μ b = some k) : SimF μ' ρ w :=
  ⟨h.lt, fun b L cells r h1 h2 => h.row b L cells r h1 (ht _ _ _ h1 h2 rfl), fun b L es c h1 h2 => h.map b L es c h1 (ht _ _ _ h1 h2 rfl),
    fun b1 b2 L1 L2 k1 k2 hne h1 h2 g1 g2 l1 l2 f => h.apart b1 b2 L1 L2 k1 k2 hne h1 h2 (ht _ _ _ h1 g1 l1) (ht _ _ _ h2 g2 l2) l1 l2 f⟩

theorem SimF.put_new {μ : Nat → Option Blk} {ρ : LMap} {w : World} (h : SimF μ ρ w) {id : Nat} {cells : List AV} (o : Obj) {lim : Nat} (hρ : ρ id = none) (hid : μ id = some (.row cells false))
    (hrow : RowAt ρ (w.alloc o) ⟨w.heap.size, 0, lim⟩ cells false) : SimF μ (upd ρ id ⟨w.heap.size, 0, lim⟩) (w.alloc o) := by
  have hsub := upd_sub ⟨w.heap.size, 0, lim⟩ hρ
  have hsz : (w.alloc o).heap.size = w.heap.size + 1 := by simp
  have same : ∀ B, B < w.heap.size → (w.alloc o).heap[B]? = w.heap[B]? := fun B hB => RowKit.Below.heap_alloc w o B hB
  refine ⟨?_, ?_, ?_, ?_⟩
  · intro b L hb
    by_cases e : b = id
    · subst e; rw [upd_same] at hb; cases hb; rw [hsz]; exact Nat.lt_succ_self _
    · rw [upd_ne _ _ e] at hb; have := h.lt b L hb; omega
  · intro b L cs r hb hm
    by_cases e : b = id
    · subst e; rw [upd_same] at hb; cases hb
      rw [hid] at hm; cases hm
      exact hrow.mono hsub rfl
    · rw [upd_ne _ _ e] at hb
      exact (h.row b L cs r hb hm).mono hsub (same _ (h.lt b L hb))
  · intro b L es c hb hm
    by_cases e : b = id
    · subst e; rw [hid] at hm; cases hm
    · rw [upd_ne _ _ e] at hb
      exact (h.map b L es c hb hm).mono hsub (same _ (h.lt b L hb))
  · intro b1 b2 L1 L2 k1 k2 hne h1 h2 g1 g2 l1 l2 f
    by_cases e1 : b1 = id
    · subst e1; rw [upd_same] at h1; cases h1
      rw [upd_ne _ _ (Ne.symm hne)] at h2
      have := h.lt _ _ h2
      simp only; omega
    · rw [upd_ne _ _ e1] at h1
      by_cases e2 : b2 = id
      · subst e2; rw [upd_same] at h2; cases h2
        have := h.lt _ _ h1
        simp only; omega
      · rw [upd_ne _ _ e2] at h2
        exact h.apart b1 b2 L1 L2 k1 k2 hne h1 h2 g1 g2 l1 l2 f

/-- Behind a step from M1 to M2, with more blocks behind both. -/
theorem SimF.after {μ : Nat → Option Blk} {ρ ρ' : LMap} {w w' : World} {M1 M2 : Mem} (h : SimF μ ρ w) (h1 : ∀ b, b < M1.length → μ b = M1[b]?) (hst : Step M1 M2 ρ ρ' w w') (h2 : Sim M2 ρ' w') (hf : Fresh M1 M2 ρ) :
    SimF (fun b => if b < M2.length then M2[b]? else μ b) ρ' w' := by
  have hsub := hst.sub hf
  have hlen := hst.ab.len
  have keep : ∀ b L k, M2.length ≤ b → ρ' b = some L → μ b = some k → k.live = true → ρ b = some L ∧ w'.heap[L.blk]? = w.heap[L.blk]? := by
    intro b L k hb hρ' hμ hl
    rw [hst.old b (.inr hb)] at hρ'
    refine ⟨hρ', hst.frame _ (h.lt b L hρ') fun b0 L0 k0 g1 g2 g3 g4 => ?_⟩
    have hlt := lt_of_get g2
    exact h.apart b0 b L0 L k0 k (by omega) g1 hρ' (by rw [h1 b0 hlt]; exact g2) hμ g3 hl (.inl g4)
  refine ⟨h2.lt, ?_, ?_, ?_⟩
  · intro b L cells r hb hm
    split at hm
    · exact h2.row b L cells r hb hm
    · obtain ⟨g1, g2⟩ := keep b L _ (by omega) hb hm rfl
      exact (h.row b L cells r g1 hm).mono hsub g2
  · intro b L es c hb hm
    split at hm
    · exact h2.map b L es c hb hm
    · obtain ⟨g1, g2⟩ := keep b L _ (by omega) hb hm rfl
      exact (h.map b L es c g1 hm).mono hsub g2
  · have one : ∀ b1 b2 L1 L2 k1 k2, b1 < M2.length → M2.length ≤ b2 → ρ' b1 = some L1 → ρ' b2 = some L2 → M2[b1]? = some k1 → μ b2 = some k2 → k1.live = true → k2.live = true → (k1.fixed = false ∨ k2.fixed = false) → L1.blk ≠ L2.blk := by
      intro b1 b2 L1 L2 k1 k2 hb1 hb2 r1 r2 g1 g2 l1 l2 f
      obtain ⟨q2, _⟩ := keep b2 L2 k2 hb2 r2 g2 l2
      by_cases hb : b1 < M1.length
      · obtain ⟨k, i1, i2, i3⟩ := hst.ab.live b1 k1 hb g1 l1
        rw [hst.old b1 (.inl hb)] at r1
        exact h.apart b1 b2 L1 L2 k k2 (by omega) r1 q2 (by rw [h1 b1 hb]; exact i1) g2 i2 l2 (by rw [i3]; exact f)
      · rcases hst.new b1 L1 (by omega) hb1 r1 with j | ⟨b0, L0, k0, j1, j2, j3, j4, j5⟩
        · have := h.lt b2 L2 q2; omega
        · have hlt := lt_of_get j2
          rw [j5]
          exact h.apart b0 b2 L0 L2 k0 k2 (by omega) j1 q2 (by rw [h1 b0 hlt]; exact j2) g2 j3 l2 (.inl j4)
    intro b1 b2 L1 L2 k1 k2 hne r1 r2 g1 g2 l1 l2 f
    split at g1
    · split at g2
      · exact h2.apart b1 b2 L1 L2 k1 k2 hne r1 r2 g1 g2 l1 l2 f
      · exact one b1 b2 L1 L2 k1 k2 (by omega) (by omega) r1 r2 g1 g2 l1 l2 f
    · split at g2
      · exact (one b2 b1 L2 L1 k2 k1 (by omega) (by omega) r2 r1 g2 g1 l2 l1 f.symm).symm
      · obtain ⟨q1, _⟩ := keep b1 L1 k1 (by omega) r1 g1 l1
        obtain ⟨q2, _⟩ := keep b2 L2 k2 (by omega) r2 g2 l2
        exact h.apart b1 b2 L1 L2 k1 k2 hne q1 q2 g1 g2 l1 l2 f

/-- What is done so far, seen from the region's begin; n: how many abstract blocks there are at its end. -/
structure Part (m : Mem) (n : Nat) (ρ ρ' : LMap) (w w' : World) : Prop where
  old : ∀ b, b < m.length ∨ n ≤ b → ρ' b = ρ b
  new : ∀ b L, m.length ≤ b → b < n → ρ' b = some L →
    w.heap.size ≤ L.blk ∨ ∃ b0 L0 k0, ρ b0 = some L0 ∧ m[b0]? = some k0 ∧ k0.live = true ∧ k0.fixed = false ∧ L.blk = L0.blk
  os : w'.os = w.os
  tape : w'.tape = w.tape
  output : w'.output = w.output
  size : w.heap.size ≤ w'.heap.size
  frame : ∀ B, B < w.heap.size → (∀ b0 L0 k0, ρ b0 = some L0 → m[b0]? = some k0 → k0.live = true → k0.fixed = false → L0.blk ≠ B) → w'.heap[B]? = w.heap[B]?

theorem Part.push {m : Mem} {n : Nat} {ρ ρ' : LMap} {w w' : World} (h : Part m n ρ ρ' w w') {id lim : Nat} (h1 : m.length ≤ id) (h2 : id < n) (o : Obj) : Part m n ρ (upd ρ' id ⟨w'.heap.size, 0, lim⟩) w (w'.alloc o) := by
  have hsz : (w'.alloc o).heap.size = w'.heap.size + 1 := by simp
  refine ⟨fun b hb => ?_, fun b L g1 g2 g3 => ?_, h.os, h.tape, h.output, by have := h.size; omega, fun B hB hno => ?_⟩
  · rw [upd_ne _ _ (by omega)]; exact h.old b hb
  · by_cases e : b = id
    · subst e; rw [upd_same] at g3; cases g3; exact .inl h.size
    · rw [upd_ne _ _ e] at g3; exact h.new b L g1 g2 g3
  · rw [RowKit.Below.heap_alloc w' o B (Nat.lt_of_lt_of_le hB h.size)]; exact h.frame B hB hno

theorem Part.trans {m M1 M2 : Mem} {n : Nat} {ρ ρ1 ρ2 : LMap} {w w1 w2 : World} (h : Part m n ρ ρ1 w w1) (hab : AStep m M1) (k : Step M1 M2 ρ1 ρ2 w1 w2) (hn : M2.length ≤ n) : Part m n ρ ρ2 w w2 := by
  have hl := hab.len
  have kl := k.ab.len
  refine ⟨fun b hb => ?_, fun b L g1 g2 g3 => ?_, k.os.trans h.os, k.tape.trans h.tape, k.output.trans h.output, Nat.le_trans h.size k.size, fun B hB hno => ?_⟩
  · rw [k.old b (by omega), h.old b hb]
  · by_cases hb : b < M1.length ∨ M2.length ≤ b
    · rw [k.old b hb] at g3; exact h.new b L g1 g2 g3
    · rcases k.new b L (by omega) (by omega) g3 with j | ⟨b0, L0, k0, j1, j2, j3, j4, j5⟩
      · exact .inl (Nat.le_trans h.size j)
      · by_cases hb0 : b0 < m.length
        · obtain ⟨k1, i1, i2, i3⟩ := hab.live b0 k0 hb0 j2 j3
          rw [h.old b0 (.inl hb0)] at j1
          exact .inr ⟨b0, L0, k1, j1, i1, i2, i3.trans j4, j5⟩
        · rcases h.new b0 L0 (by omega) (by have := lt_of_get j2; omega) j1 with q | ⟨b1, L1, k1, q1, q2, q3, q4, q5⟩
          · exact .inl (by rw [j5]; exact q)
          · exact .inr ⟨b1, L1, k1, q1, q2, q3, q4, j5.trans q5⟩
  · rw [k.frame B (Nat.lt_of_lt_of_le hB h.size) ?_, h.frame B hB hno]
    intro b0 L0 k0 g1 g2 g3 g4 hBe
    by_cases hb0 : b0 < m.length
    · obtain ⟨k1, i1, i2, i3⟩ := hab.live b0 k0 hb0 g2 g3
      rw [h.old b0 (.inl hb0)] at g1
      exact hno b0 L0 k1 g1 i1 i2 (i3.trans g4) hBe
    · rcases h.new b0 L0 (by omega) (by have := lt_of_get g2; omega) g1 with q | ⟨b1, L1, k1, q1, q2, q3, q4, q5⟩
      · omega
      · exact hno b1 L1 k1 q1 q2 q3 q4 (q5 ▸ hBe)

/-! ## A frame cut to what an operation names -/

def AFr.only (ks : List Nat) (t : AFr) : AFr := t.filter fun p => ks.contains p.1
theorem AFr.get_only (ks : List Nat) (t : AFr) (x : Nat) : (t.only ks).get x = if ks.contains x then t.get x else none := by
  induction t with
  | nil => simp [AFr.only, AFr.get]
  | cons p t ih =>
    obtain ⟨i, v⟩ := p
    simp only [AFr.only, List.filter_cons] at *
    split
    · rename_i hk
      simp only [AFr.get, ih]
      split
      · rename_i e; subst e; rw [if_pos hk]
      · rfl
    · rename_i hk
      simp only [AFr.get, ih]
      split
      · rename_i hx
        split
        · rename_i e; subst e; exact absurd hx hk
        · rfl
      · rfl

theorem evalAll_only {ks : List Nat} {t : AFr} : ∀ (xs : List AX), (∀ n, AX.t n ∈ xs → n ∈ ks) → evalAll (t.only ks) xs = evalAll t xs := by
  intro xs
  induction xs with
  | nil => intro _; rfl
  | cons x xs ih =>
    intro h
    simp only [evalAll]
    rw [ih fun n hn => h n (List.mem_cons_of_mem _ hn)]
    congr 1
    cases x with
    | c v => rfl
    | t n =>
      simp only [AX.eval]
      rw [AFr.get_only, if_pos (by simpa using h n List.mem_cons_self)]

theorem AOper.names_xs {o : AOper} {n : Nat} (h : AX.t n ∈ o.xs) : n ∈ o.names := by
  unfold AOper.names
  refine List.mem_append_right _ (List.mem_append_left _ (List.mem_filterMap.2 ⟨_, h, rfl⟩))
theorem AOper.names_g {o : AOper} {j : Nat} {b : Bool} (h : o.g = some (j, b)) : j ∈ o.names := by
  unfold AOper.names
  refine List.mem_append_right _ (List.mem_append_right _ ?_)
  rw [h]; exact List.mem_cons_self
theorem AOper.names_dst {o : AOper} {x : Nat} (h : o.dst = some x) : x ∈ o.names := by
  unfold AOper.names
  refine List.mem_append_left _ ?_
  rw [h]; simp

theorem wantedA_only {o : AOper} {t : AFr} : wantedA o.g (t.only o.names) = wantedA o.g t := by
  unfold wantedA
  cases hg : o.g with
  | none => rfl
  | some p =>
    obtain ⟨j, b⟩ := p
    simp only
    rw [AFr.get_only, if_pos (by simpa using AOper.names_g hg)]

theorem aR_ext {k : AK} {vs : List AV} {m e : Mem} {v : AV} (h : aR k vs m = some v) : aR k vs (m ++ e) = some v := by
  cases k <;> simp only [aR, reduceCtorEq] at h ⊢
  unfold rLoad at h ⊢
  split at h
  · simp only [Option.bind_eq_some_iff] at h ⊢
    obtain ⟨cells, hr, h⟩ := h
    refine ⟨cells, ?_, h⟩
    obtain ⟨r, hr'⟩ := rowOf_some hr
    unfold rowOf
    rw [List.getElem?_append_left (lt_of_get hr'), hr']
  · cases h
end Go.Adm
