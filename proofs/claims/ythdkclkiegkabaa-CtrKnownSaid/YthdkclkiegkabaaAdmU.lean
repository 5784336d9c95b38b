/- From a call's contract to the call in the model's world; how arguments lie. -/
import Derived.Test.YthdkclkiegkabaaAdmT
import Derived.ProofKit
import Derived.OpenShut
import Derived.ShutString
import Derived.ChangeOld
import Derived.SizedLaws
namespace Go.Adm
open RowKit

/-- A memory of what came in: all of it is only read. -/
structure St (m : Mem) (ρ : LMap) (W : World) : Prop where
  sim : Sim m ρ W
  ro : ∀ (b : Nat) (k : Blk), m[b]? = some k → k.fixed = true
  out : ∀ b, m.length ≤ b → ρ b = none

theorem St.nil (W : World) : St [] (fun _ => none) W :=
  ⟨⟨(fun _ _ h => nomatch h), (fun _ _ _ _ h => nomatch h), (fun _ _ _ _ h => nomatch h), (fun _ _ _ _ _ _ _ h => nomatch h)⟩, (fun _ _ h => nomatch h), (fun _ _ => rfl)⟩

theorem get_snoc {m : Mem} {k y : Blk} {x : Nat} (h : (m ++ [k])[x]? = some y) : (x < m.length ∧ m[x]? = some y) ∨ (x = m.length ∧ y = k) := by
  by_cases hx : x = m.length
  · subst hx; rw [get_append_self] at h; cases h; exact .inr ⟨rfl, rfl⟩
  · have := get_append_ne hx h
    exact .inl ⟨lt_of_get this, this⟩

/-- One more block that is only read. -/
theorem St.push {m : Mem} {ρ : LMap} {W : World} (h : St m ρ W) {cells : List AV} {L : Loc} (hr : RowAt ρ W L cells true) :
    St (m ++ [.row cells true]) (upd ρ m.length L) W ∧ Sub ρ (upd ρ m.length L) := by
  have hs := upd_sub L (h.out m.length (Nat.le_refl _))
  have hL : L.blk < W.heap.size := by
    obtain ⟨C, e, fz, h1, _⟩ := hr.ex
    exact (Array.getElem?_eq_some_iff.mp h1).1
  refine ⟨⟨⟨?_, ?_, ?_, ?_⟩, ?_, ?_⟩, hs⟩
  · intro b L' hb
    by_cases e : b = m.length
    · subst e; rw [upd_same] at hb; cases hb; exact hL
    · rw [upd_ne _ _ e] at hb; exact h.sim.lt b L' hb
  · intro b L' cs r hb hm
    rcases get_snoc hm with ⟨hlt, hm⟩ | ⟨rfl, hk⟩
    · rw [upd_ne _ _ (by omega)] at hb
      exact (h.sim.row b L' cs r hb hm).mono hs rfl
    · rw [upd_same] at hb; cases hb; cases hk
      exact hr.mono hs rfl
  · intro b L' es c hb hm
    rcases get_snoc hm with ⟨hlt, hm⟩ | ⟨rfl, hk⟩
    · have := h.ro b _ hm; cases this
    · cases hk
  · intro b1 b2 L1 L2 k1 k2 hne h1 h2 g1 g2 l1 l2 f
    have all : ∀ (b : Nat) (k : Blk), (m ++ [.row cells true])[b]? = some k → k.fixed = true := by
      intro b k hk
      rcases get_snoc hk with ⟨_, hk⟩ | ⟨_, rfl⟩
      · exact h.ro b k hk
      · rfl
    rw [all _ _ g1, all _ _ g2] at f
    simp at f
  · intro b k hk
    rcases get_snoc hk with ⟨_, hk⟩ | ⟨_, rfl⟩
    · exact h.ro b k hk
    · rfl
  · intro b hb
    simp only [List.length_append, List.length_singleton] at hb
    rw [upd_ne _ _ (by omega)]
    exact h.out b (by omega)

/-- A slice that came in, not nil. -/
theorem St.slice {m : Mem} {ρ : LMap} {W : World} (h : St m ρ W) {a : Addr} {len cap : Nat} {cells : List AV} (hsp : a.spot = none)
    (hblk : ∃ C e fz, W.heap[a.block]? = some (.cells C e fz)) (hle : len ≤ cap) (hflat : cells.all AV.flat = true) (hc0 : cap = 0 → cells = [])
    (hin : 0 < cap → ∃ v, W.cell? (a.add 0) = some v) (hcell : ∀ (i : Nat) (v : AV), cells[i]? = some v → ∃ v', W.cell? (a.add i) = some v' ∧ VR ρ v v') :
    ∃ ρ', St (m ++ [.row cells true]) ρ' W ∧ Sub ρ ρ' ∧ VR ρ' (.sl m.length 0 len cap 0) (.slice (some a) len cap) := by
  obtain ⟨C, e, fz, hC⟩ := hblk
  have get : ∀ i v', W.cell? (a.add i) = some v' → C[a.off + i]? = some v' := by
    intro i v' hv
    have e1 : (a.add i).block = a.block := by unfold Addr.add; split <;> rfl
    have e2 : (a.add i).off = a.off + i := by unfold Addr.add; split <;> simp_all
    have e3 : (a.add i).spot = none := by unfold Addr.add; split <;> simp_all
    simp only [World.cell?, e1, e2, e3, hC, Option.isSome_none, Bool.false_eq_true, if_false] at hv
    exact hv
  have lt : ∀ (i : Nat) (v' : Value), C[i]? = some v' → i < C.size := fun i v' hv => (Array.getElem?_eq_some_iff.mp hv).1
  let L : Loc := ⟨a.block, if cap = 0 then 0 else a.off, C.size⟩
  have hr : RowAt ρ W L cells true := by
    refine ⟨⟨C, e, fz, hC, rfl, ?_, ?_, fun h => by cases h⟩, hflat⟩
    · by_cases hc : cap = 0
      · simp [L, hc, hc0 hc]
      · simp only [L, if_neg hc]
        cases hl : cells with
        | nil =>
          obtain ⟨v, hv⟩ := hin (by omega)
          have := lt _ _ (get 0 v hv)
          simp; omega
        | cons x r =>
          have hlast : cells[cells.length - 1]? = some (cells[cells.length - 1]'(by rw [hl]; simp)) := List.getElem?_eq_getElem _
          obtain ⟨v', hv', _⟩ := hcell _ _ hlast
          have := lt _ _ (get _ v' hv')
          rw [hl] at this
          simp at this ⊢; omega
    · intro i v hv
      have hc : ¬ cap = 0 := fun hc => by rw [hc0 hc] at hv; simp at hv
      simp only [L, if_neg hc]
      obtain ⟨v', h1, h2⟩ := hcell i v hv
      exact ⟨v', get i v' h1, h2⟩
  obtain ⟨h1, h2⟩ := h.push hr
  refine ⟨_, h1, h2, .sl (upd_same _ _ _) hle hsp fun hc => ?_⟩
  have : ¬ cap = 0 := by omega
  simp only [Loc.addr, L, if_neg this, Nat.add_zero]
  cases a; simp only at hsp; subst hsp; rfl

/-- A contract that says 'true', in the world. -/
theorem Ans.calls {P : Program} {f : FuncId} {args : List AV} {m : Mem} {ρ : LMap} {W : World} {cargs : Array Value} {R : Mem → Prop} (h : Ans P f args m fun r m' => r = .bool true ∧ R m') (hs : St m ρ W) (hv : VRL ρ args cargs.toList) :
    Calls P f cargs W fun e W' => e = .returned (.bool true) ∧ Below W.heap.size W W' := by
  obtain ⟨r, m', he, rfl, _⟩ := h
  refine (he.to_ ρ W cargs hs.sim (fun b h1 _ => hs.out b h1) hv).mono fun e W' hq => ?_
  obtain ⟨r', ρ', rfl, hr, hs', hst⟩ := hq
  cases hr
  refine ⟨rfl, hst.os, hst.tape, hst.output, hst.size, fun B hB => hst.frame B hB fun b0 L0 k0 _ hk _ hf => ?_⟩
  rw [hs.ro b0 k0 hk] at hf; cases hf
end Go.Adm
namespace Go.Adm
open Go.ChangeShapes Go.WideShapes Go.ChangeAt Go.RowKit
open Go.ChangeMaps (open_string)

/-- A value that came in, as an abstract one, of which Q holds whatever else is laid. -/
def Opens (W : World) (Q : AV → Mem → Prop) (v : Value) : Prop :=
  ∀ m ρ, St m ρ W → ∃ e ρ' x, St (m ++ e) ρ' W ∧ Sub ρ ρ' ∧ VR ρ' x v ∧ ∀ e', Q x (m ++ e ++ e')

theorem Opens.const {W : World} {v : Value} (x : AV) (h : ∀ ρ, VR ρ x v) : Opens W (fun y _ => y = x) v :=
  fun m ρ hs => ⟨[], ρ, x, by simpa using hs, .refl _, h ρ, fun _ => rfl⟩

/-- A list of integers, as an argument: nil, or a slice of a block. -/
def IsInts (k : IntKind) (g : List Int) (x : AV) (m : Mem) : Prop :=
  (x = .nils ∧ g = []) ∨ ∃ b cap, x = .sl b 0 g.length cap 0 ∧ rowOf m b = some (g.map (.int k))

theorem okWide_slice_at {P : Program} {W : World} {r : Reach} {b0 : Nat} {t e : TypeId} {a : Addr} {len cap : Nat} (ht : P.underlying t = some (.slice e)) (h : Value.okWide P W r b0 t (.slice (some a) len cap)) :
    a.spot = none ∧ ∃ C e fz, W.heap[a.block]? = some (.cells C e fz) := by
  simp only [Value.okWide, ht, Cell.okWide, Cell.ok] at h
  obtain ⟨_, _, _, h1, row, cells, h2, _⟩ := h
  refine ⟨h1, ?_⟩
  unfold World.shape? at h2
  split at h2
  · exact ⟨_, _, _, by assumption⟩
  · cases h2

section
variable {H : Type} {enc : TypeId × Value → H} {P : Program} {W : World}
theorem Opens.ints {r : Reach} {b0 : Nat} {t e : TypeId} {k : IntKind} {v : Value} {d : DataW H} {ps : List MemPlace} (ht : P.underlying t = some (.slice e)) (he : P.underlying e = some (.int k)) (hc : P.cellsOf e = 1)
    (hval : Value.okWide P W r b0 t v) (h : DataW.Trod enc P W 0 (fun _ => true) true t v d ps) :
    ∃ g : List Int, (∀ n ∈ g, (Lit.int k n).wf = true) ∧ Opens W (IsInts k g) v := by
  obtain ⟨a, len, cap, rfl⟩ := okWide_slice ht hval
  obtain ⟨fuel, hf⟩ := h
  rcases open_ints ht he hc hf with ⟨hcs, _⟩ | ⟨x, l, c, zs, hcs, _, hl, hm, hz, _, hcell, hwz⟩
  · simp [Value.cells] at hcs
    obtain ⟨rfl, rfl, rfl⟩ := hcs
    exact ⟨[], by simp, fun m ρ hs => ⟨[], ρ, .nils, by simpa using hs, .refl _, .nils, fun _ => .inl ⟨rfl, rfl⟩⟩⟩
  · simp [Value.cells] at hcs
    obtain ⟨rfl, rfl, rfl⟩ := hcs
    simp only [if_true] at hz
    obtain ⟨h1, h2⟩ := okWide_slice_at ht hval
    refine ⟨zs.take len, fun n hn => hwz n (List.mem_of_mem_take hn), fun m ρ hs => ?_⟩
    have hlen : (zs.take len).length = len := by simp; omega
    obtain ⟨ρ', g1, g2, g3⟩ := hs.slice (cells := (zs.take len).map (.int k)) h1 h2 hl (by rw [List.all_map, List.all_eq_true]; intro x _; rfl) (fun hc => by simp; omega)
      (fun hc => ⟨_, hcell 0 (by omega)⟩) (fun i v hv => by
        simp only [List.getElem?_map, Option.map_eq_some_iff] at hv
        obtain ⟨n, hn, rfl⟩ := hv
        have hi := lt_of_get hn
        rw [hlen] at hi
        refine ⟨_, hcell i (by omega), ?_⟩
        have : zs.getD i 0 = n := by
          rw [List.getElem?_take_of_lt hi] at hn
          simp [hn]
        rw [this]; exact .int _ _)
    refine ⟨_, ρ', _, g1, g2, g3, fun e' => .inr ⟨m.length, cap, by rw [hlen], ?_⟩⟩
    simp [rowOf]
end
end Go.Adm
