/- How a memory lies in a world: what reads and writes do to that. -/
import Derived.Test.YthdkclkiegkabaaAdmA
namespace Go.Adm

theorem RowAt.mono {ρ ρ' : LMap} {w w' : World} {L : Loc} {cells : List AV} {ro : Bool} (h : RowAt ρ w L cells ro) (hs : Sub ρ ρ')
    (hw : w'.heap[L.blk]? = w.heap[L.blk]?) : RowAt ρ' w' L cells ro := by
  obtain ⟨C, e, fz, h1, h2, h3, h4, h5⟩ := h.ex
  exact ⟨⟨C, e, fz, hw.trans h1, h2, h3, fun i v hv => let ⟨v', a, b⟩ := h4 i v hv; ⟨v', a, b.mono hs⟩, h5⟩, h.flat⟩

theorem MapAt.mono {ρ ρ' : LMap} {w w' : World} {L : Loc} {es : List (AV × AV × Nat)} {c : Nat} (h : MapAt ρ w L es c) (hs : Sub ρ ρ')
    (hw : w'.heap[L.blk]? = w.heap[L.blk]?) : MapAt ρ' w' L es c := by
  obtain ⟨es', h1, h2, h3⟩ := h.ex
  exact ⟨es', hw.trans h1, h2, fun i e e' he he' => let ⟨a, b, c⟩ := h3 i e e' he he'; ⟨a.mono hs, b.mono hs, c⟩⟩

def upd (ρ : LMap) (b : Nat) (L : Loc) : LMap := fun x => if x = b then some L else ρ x

theorem upd_same (ρ : LMap) (b : Nat) (L : Loc) : upd ρ b L b = some L := if_pos rfl
theorem upd_ne (ρ : LMap) {b x : Nat} (L : Loc) (h : x ≠ b) : upd ρ b L x = ρ x := if_neg h
theorem upd_sub {ρ : LMap} {b : Nat} (L : Loc) (h : ρ b = none) : Sub ρ (upd ρ b L) := by
  intro x X hx
  by_cases e : x = b
  · subst e; rw [h] at hx; cases hx
  · rw [upd_ne _ _ e]; exact hx

/-- A new concrete block becomes the abstract block 'id' (of whatever kind: 'good' says that it is there). -/
theorem Sim.put_new {m m' : Mem} {ρ : LMap} {w : World} (h : Sim m ρ w) {id : Nat} {k : Blk} (o : Obj) {lim : Nat} (hρ : ρ id = none)
    (hid : m'[id]? = some k) (ho : ∀ x, x ≠ id → ∀ y, m'[x]? = some y → y.live = true → m[x]? = some y)
    (hrow : ∀ cells r, k = .row cells r → RowAt (upd ρ id ⟨w.heap.size, 0, lim⟩) (w.alloc o) ⟨w.heap.size, 0, lim⟩ cells r)
    (hmap : ∀ es c, k = .map es c → MapAt (upd ρ id ⟨w.heap.size, 0, lim⟩) (w.alloc o) ⟨w.heap.size, 0, lim⟩ es c) :
    Sim m' (upd ρ id ⟨w.heap.size, 0, lim⟩) (w.alloc o) := by
  have hsub := upd_sub ⟨w.heap.size, 0, lim⟩ hρ
  have hsz : (w.alloc o).heap.size = w.heap.size + 1 := by simp
  have same : ∀ B, B < w.heap.size → (w.alloc o).heap[B]? = w.heap[B]? := fun B hB => RowKit.Below.heap_alloc w o B hB
  refine ⟨?_, ?_, ?_, ?_⟩
  · intro b L hb
    by_cases e : b = id
    · subst e; rw [upd_same] at hb; cases hb; rw [hsz]; exact Nat.lt_succ_self _
    · rw [upd_ne _ _ e] at hb; have := h.lt b L hb; omega
  · intro b L cells r hb hm
    by_cases e : b = id
    · subst e; rw [upd_same] at hb; cases hb
      rw [hid] at hm; cases hm
      exact hrow _ _ rfl
    · rw [upd_ne _ _ e] at hb
      exact (h.row b L cells r hb (ho b e _ hm rfl)).mono hsub (same _ (h.lt b L hb))
  · intro b L es c hb hm
    by_cases e : b = id
    · subst e; rw [upd_same] at hb; cases hb
      rw [hid] at hm; cases hm
      exact hmap _ _ rfl
    · rw [upd_ne _ _ e] at hb
      exact (h.map b L es c hb (ho b e _ hm rfl)).mono hsub (same _ (h.lt b L hb))
  · intro b1 b2 L1 L2 k1 k2 hne h1 h2 g1 g2 l1 l2 f
    by_cases e1 : b1 = id
    · subst e1; rw [upd_same] at h1; cases h1
      rw [upd_ne _ _ (Ne.symm hne)] at h2
      have := h.lt _ _ h2
      simp only; omega
    · rw [upd_ne _ _ e1] at h1
      by_cases e2 : b2 = id
      · subst e2; rw [upd_same] at h2; cases h2
        have := h.lt _ _ h1
        simp only; omega
      · rw [upd_ne _ _ e2] at h2
        exact h.apart b1 b2 L1 L2 k1 k2 hne h1 h2 (ho b1 e1 _ g1 l1) (ho b2 e2 _ g2 l2) l1 l2 f

theorem get_append_self {m : Mem} {k : Blk} : (m ++ [k])[m.length]? = some k := by simp
theorem get_append_ne {m : Mem} {k y : Blk} {x : Nat} (h : x ≠ m.length) (e : (m ++ [k])[x]? = some y) : m[x]? = some y := by
  have hlt := lt_of_get e
  simp only [List.length_append, List.length_singleton] at hlt
  rwa [List.getElem?_append_left (by omega)] at e

theorem AStep.push (m : Mem) (k : Blk) : AStep m (m ++ [k]) := by
  refine ⟨by simp, fun b x h _ => ?_, fun b x hb h l => ?_⟩
  · rw [List.getElem?_append_left (lt_of_get h)]; exact h
  · rw [List.getElem?_append_left hb] at h; exact ⟨x, h, l, rfl⟩

/-- A new block at the end of the memory. -/
theorem Step.push {m : Mem} {ρ : LMap} {w : World} (k : Blk) (o : Obj) (lim : Nat) :
    Step m (m ++ [k]) ρ (upd ρ m.length ⟨w.heap.size, 0, lim⟩) w (w.alloc o) := by
  refine ⟨.push m k, fun b hb => ?_, fun b L h1 h2 e => ?_, rfl, rfl, rfl, by simp, fun B hB _ => RowKit.Below.heap_alloc w o B hB⟩
  · simp only [List.length_append, List.length_singleton] at hb
    exact upd_ne _ _ (by omega)
  · simp only [List.length_append, List.length_singleton] at h2
    obtain rfl : b = m.length := by omega
    rw [upd_same] at e; cases e
    exact .inl (Nat.le_refl _)

/-- A block that may be written has new cells. -/
theorem Sim.change {m m' : Mem} {ρ : LMap} {w w' : World} (h : Sim m ρ w) {b : Nat} {L : Loc} {cells cells' : List AV} (hb : ρ b = some L)
    (hm : m[b]? = some (.row cells false)) (hm' : m'[b]? = some (.row cells' false)) (ho : ∀ x, x ≠ b → m'[x]? = m[x]?)
    (hrow : RowAt ρ w' L cells' false) (hw : ∀ B, B ≠ L.blk → w'.heap[B]? = w.heap[B]?) (hs : w'.heap.size = w.heap.size) : Sim m' ρ w' := by
  have other : ∀ (x : Nat) (X : Loc) (k : Blk), x ≠ b → ρ x = some X → m[x]? = some k → k.live = true → w'.heap[X.blk]? = w.heap[X.blk]? := fun x X k hne hx hk hl =>
    hw _ (h.apart x b X L k _ hne hx hb hk hm hl rfl (.inr rfl))
  refine ⟨fun x X hx => by rw [hs]; exact h.lt x X hx, ?_, ?_, ?_⟩
  · intro x X cs r hx hk
    by_cases e : x = b
    · subst e; rw [hm'] at hk; cases hk; rw [hb] at hx; cases hx; exact hrow
    · rw [ho x e] at hk
      exact (h.row x X cs r hx hk).mono (.refl _) (other x X _ e hx hk rfl)
  · intro x X es c hx hk
    by_cases e : x = b
    · subst e; rw [hm'] at hk; cases hk
    · rw [ho x e] at hk
      exact (h.map x X es c hx hk).mono (.refl _) (other x X _ e hx hk rfl)
  · intro b1 b2 L1 L2 k1 k2 hne h1 h2 g1 g2 l1 l2 f
    have look : ∀ (x : Nat) (k : Blk), m'[x]? = some k → k.live = true → ∃ k', m[x]? = some k' ∧ k'.live = true ∧ k'.fixed = k.fixed := by
      intro x k hk hl
      by_cases e : x = b
      · subst e; rw [hm'] at hk; cases hk; exact ⟨_, hm, rfl, rfl⟩
      · rw [ho x e] at hk; exact ⟨k, hk, hl, rfl⟩
    obtain ⟨k1', a1, b1', c1⟩ := look _ _ g1 l1
    obtain ⟨k2', a2, b2', c2⟩ := look _ _ g2 l2
    exact h.apart b1 b2 L1 L2 k1' k2' hne h1 h2 a1 a2 b1' b2' (by rw [c1, c2]; exact f)

theorem AStep.set {m : Mem} {b : Nat} {k k' : Blk} (hk : m[b]? = some k) (hf : k.fixed = false) (hl : k'.live = true → k.live = true ∧ k'.fixed = false) : AStep m (m.set b k') := by
  refine ⟨by simp, fun x y hx hy => ?_, fun x y hx hy l => ?_⟩
  · by_cases e : b = x
    · subst e; rw [hk] at hx; cases hx; rw [hf] at hy; cases hy
    · rw [List.getElem?_set_ne e]; exact hx
  · by_cases e : b = x
    · subst e
      rw [List.getElem?_set_self hx] at hy; cases hy
      exact ⟨k, hk, (hl l).1, by rw [hf, (hl l).2]⟩
    · rw [List.getElem?_set_ne e] at hy; exact ⟨y, hy, l, rfl⟩

theorem Step.change {m : Mem} {ρ : LMap} {w w' : World} {b : Nat} {L : Loc} {k k' : Blk} (hb : ρ b = some L)
    (hm : m[b]? = some k) (hl0 : k.live = true) (hf : k.fixed = false) (hf' : k'.fixed = false) (hw : ∀ B, B ≠ L.blk → w'.heap[B]? = w.heap[B]?) (hs : w'.heap.size = w.heap.size)
    (h1 : w'.os = w.os) (h2 : w'.tape = w.tape) (h3 : w'.output = w.output) : Step m (m.set b k') ρ ρ w w' := by
  refine ⟨.set hm hf (fun _ => ⟨hl0, hf'⟩), fun _ _ => rfl, fun x _ g1 g2 _ => ?_, h1, h2, h3, by omega, fun B hB hno => ?_⟩
  · simp only [List.length_set] at g2; omega
  · exact hw B fun e => hno b L k hb hm hl0 hf e.symm

/-- Reading a cell. -/
theorem Sim.cell {m : Mem} {ρ : LMap} {w : World} (h : Sim m ρ w) {b : Nat} {L : Loc} {cells : List AV} {r : Bool} (hb : ρ b = some L)
    (hm : m[b]? = some (.row cells r)) {i : Nat} {v : AV} (hv : cells[i]? = some v) : ∃ v', w.cell? (L.addr i) = some v' ∧ VR ρ v v' := by
  obtain ⟨C, e, fz, h1, h2, h3, h4, h5⟩ := (h.row b L cells r hb hm).ex
  obtain ⟨v', a, b⟩ := h4 i v hv
  exact ⟨v', by simp [World.cell?, Loc.addr, h1, a], b⟩

end Go.Adm
