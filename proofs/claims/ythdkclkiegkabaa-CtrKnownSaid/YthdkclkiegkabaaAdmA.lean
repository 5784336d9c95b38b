/- A deterministic abstract memory for Go programs, and how it lies in the model's world. No program is named here. -/
import Derived.WalkKit
import Derived.Below
import Derived.Orders
namespace Go.Adm

/-- Abstract values. 'sl b o len cap s': a slice of block b from cell o on; s = 0: its capacity is known; else s is the element's size and the real capacity may be greater. -/
inductive AV where
  | bool (b : Bool)
  | int (k : IntKind) (n : Int)
  | str (s : ByteArray)
  | nilp
  | ptr (b o : Nat)
  | nils
  | sl (b o len cap s : Nat)
  | mapn
  | map (b : Nat)
  | fn (f : Fn) (first captured : List AV)
  | nilf
  | nili
  | iface (t : TypeId) (v : AV)
  | agg (l : List AV)
  | tup (l : List AV)

/-- One cell's value. -/
def AV.flat : AV → Bool
  | .agg _ => false
  | .tup _ => false
  | _ => true
/-- A value that may lie in memory. -/
def AV.solid : AV → Bool
  | .tup _ => false
  | _ => true

inductive Blk where
  | dead
  | row (cells : List AV) (ro : Bool)
  | map (es : List (AV × AV × Nat)) (clock : Nat)

def Blk.live : Blk → Bool
  | .dead => false
  | _ => true
def Blk.fixed : Blk → Bool
  | .row _ r => r
  | _ => false

structure Loc where
  blk : Nat
  base : Nat
  lim : Nat

abbrev LMap := Nat → Option Loc
abbrev Mem := List Blk

def Loc.addr (L : Loc) (o : Nat) : Addr := ⟨L.blk, L.base + o, none⟩

inductive VR (ρ : LMap) : AV → Value → Prop where
  | bool (b : Bool) : VR ρ (.bool b) (.bool b)
  | int (k : IntKind) (n : Int) : VR ρ (.int k n) (.int k n)
  | str (s : ByteArray) : VR ρ (.str s) (.string s)
  | nilp : VR ρ .nilp (.pointer none)
  | ptr {b o : Nat} {L : Loc} : ρ b = some L → VR ρ (.ptr b o) (.pointer (some (L.addr o)))
  | nils : VR ρ .nils (.slice none 0 0)
  | sl {b o len cap : Nat} {L : Loc} {a : Addr} : ρ b = some L → len ≤ cap → a.spot = none → (0 < cap → a = L.addr o) → VR ρ (.sl b o len cap 0) (.slice (some a) len cap)
  | so {b o len cap s cap' : Nat} {L : Loc} {a : Addr} : ρ b = some L → 0 < s → cap ≤ cap' → len ≤ cap → a.spot = none →
      (0 < cap' → a = L.addr o ∧ L.base + o + cap' * s ≤ L.lim) → VR ρ (.sl b o len cap s) (.slice (some a) len cap')
  | mapn : VR ρ .mapn (.map none)
  | map {b : Nat} {L : Loc} : ρ b = some L → VR ρ (.map b) (.map (some L.blk))
  | fn {f : Fn} {fs cs : List AV} {fs' cs' : Array Value} : fs.length = fs'.size → cs.length = cs'.size →
      (∀ (i : Nat) (x : AV) (y : Value), fs[i]? = some x → fs'[i]? = some y → VR ρ x y) → (∀ (i : Nat) (x : AV) (y : Value), cs[i]? = some x → cs'[i]? = some y → VR ρ x y) →
      VR ρ (.fn f fs cs) (.func f fs' cs')
  | nilf : VR ρ .nilf .nilFunc
  | nili : VR ρ .nili .nilIface
  | iface {t : TypeId} {v : AV} {v' : Value} : VR ρ v v' → VR ρ (.iface t v) (.iface t v')
  | agg {l : List AV} {l' : Array Value} : l.length = l'.size → l.all AV.flat = true → (∀ (i : Nat) (x : AV) (y : Value), l[i]? = some x → l'[i]? = some y → VR ρ x y) → VR ρ (.agg l) (.agg l')
  | tup {l : List AV} {l' : Array Value} : l.length = l'.size → (∀ (i : Nat) (x : AV) (y : Value), l[i]? = some x → l'[i]? = some y → VR ρ x y) → VR ρ (.tup l) (.tuple l')

/-- Lists of values, one by one. -/
structure VRs (ρ : LMap) (l : List AV) (l' : Array Value) : Prop where
  size : l.length = l'.size
  at_ : ∀ (i : Nat) (x : AV) (y : Value), l[i]? = some x → l'[i]? = some y → VR ρ x y

def Sub (ρ ρ' : LMap) : Prop := ∀ b L, ρ b = some L → ρ' b = some L

theorem Sub.refl (ρ : LMap) : Sub ρ ρ := fun _ _ h => h
theorem Sub.trans {a b c : LMap} (h : Sub a b) (k : Sub b c) : Sub a c := fun _ _ e => k _ _ (h _ _ e)

theorem VR.mono {ρ ρ' : LMap} (h : Sub ρ ρ') {v : AV} {c : Value} (r : VR ρ v c) : VR ρ' v c := by
  induction r with
  | bool b => exact .bool b
  | int k n => exact .int k n
  | str s => exact .str s
  | nilp => exact .nilp
  | ptr e => exact .ptr (h _ _ e)
  | nils => exact .nils
  | sl e a b c => exact .sl (h _ _ e) a b c
  | so e a b c d f => exact .so (h _ _ e) a b c d f
  | mapn => exact .mapn
  | map e => exact .map (h _ _ e)
  | fn a b _ _ c d => exact .fn a b c d
  | nilf => exact .nilf
  | nili => exact .nili
  | iface _ i => exact .iface i
  | agg a b _ c => exact .agg a b c
  | tup a _ c => exact .tup a c

theorem VRs.mono {ρ ρ' : LMap} (h : Sub ρ ρ') {v : List AV} {c : Array Value} (r : VRs ρ v c) : VRs ρ' v c :=
  ⟨r.size, fun i x y hx hy => (r.at_ i x y hx hy).mono h⟩

def Cell (w : World) (L : Loc) (C : Array Value) : Prop := ∃ e fz, w.heap[L.blk]? = some (.cells C e fz)

structure RowAt (ρ : LMap) (w : World) (L : Loc) (cells : List AV) (ro : Bool) : Prop where
  ex : ∃ C e fz, w.heap[L.blk]? = some (.cells C e fz) ∧ C.size = L.lim ∧ L.base + cells.length ≤ L.lim ∧
    (∀ (i : Nat) (v : AV), cells[i]? = some v → ∃ v', C[L.base + i]? = some v' ∧ VR ρ v v') ∧
    (ro = false → ∀ i, i < L.lim → ¬ (fz.1 ≤ i ∧ i < fz.2))
  flat : cells.all AV.flat = true

structure MapAt (ρ : LMap) (w : World) (L : Loc) (es : List (AV × AV × Nat)) (clock : Nat) : Prop where
  ex : ∃ es' : Array MapEntry, w.heap[L.blk]? = some (.map es' clock) ∧ es.length = es'.size ∧
    ∀ (i : Nat) (e : AV × AV × Nat) (e' : MapEntry), es[i]? = some e → es'[i]? = some e' → VR ρ e.1 e'.key ∧ VR ρ e.2.1 e'.val ∧ e'.born = e.2.2

structure Sim (m : Mem) (ρ : LMap) (w : World) : Prop where
  lt : ∀ b L, ρ b = some L → L.blk < w.heap.size
  row : ∀ b L cells r, ρ b = some L → m[b]? = some (.row cells r) → RowAt ρ w L cells r
  map : ∀ b L es clock, ρ b = some L → m[b]? = some (.map es clock) → MapAt ρ w L es clock
  apart : ∀ b1 b2 L1 L2 k1 k2, b1 ≠ b2 → ρ b1 = some L1 → ρ b2 = some L2 → m[b1]? = some k1 → m[b2]? = some k2 →
    k1.live = true → k2.live = true → (k1.fixed = false ∨ k2.fixed = false) → L1.blk ≠ L2.blk

/-- What a piece of code may do to memory: abstract, and in the world. -/
structure AStep (m m' : Mem) : Prop where
  len : m.length ≤ m'.length
  fixed : ∀ (b : Nat) (k : Blk), m[b]? = some k → k.fixed = true → m'[b]? = some k
  live : ∀ (b : Nat) (k' : Blk), b < m.length → m'[b]? = some k' → k'.live = true → ∃ k, m[b]? = some k ∧ k.live = true ∧ k.fixed = k'.fixed

structure Step (m m' : Mem) (ρ ρ' : LMap) (w w' : World) : Prop where
  ab : AStep m m'
  old : ∀ b, b < m.length ∨ m'.length ≤ b → ρ' b = ρ b
  new : ∀ b L, m.length ≤ b → b < m'.length → ρ' b = some L →
    w.heap.size ≤ L.blk ∨ ∃ b0 L0 k0, ρ b0 = some L0 ∧ m[b0]? = some k0 ∧ k0.live = true ∧ k0.fixed = false ∧ L.blk = L0.blk
  os : w'.os = w.os
  tape : w'.tape = w.tape
  output : w'.output = w.output
  size : w.heap.size ≤ w'.heap.size
  frame : ∀ B, B < w.heap.size → (∀ b0 L0 k0, ρ b0 = some L0 → m[b0]? = some k0 → k0.live = true → k0.fixed = false → L0.blk ≠ B) → w'.heap[B]? = w.heap[B]?

def Fresh (m m' : Mem) (ρ : LMap) : Prop := ∀ b, m.length ≤ b → b < m'.length → ρ b = none

theorem AStep.refl (m : Mem) : AStep m m := ⟨Nat.le_refl _, fun _ _ h _ => h, fun _ k' _ h l => ⟨k', h, l, rfl⟩⟩

theorem AStep.trans {a b c : Mem} (h : AStep a b) (k : AStep b c) : AStep a c := by
  refine ⟨Nat.le_trans h.len k.len, fun x e hx hf => k.fixed _ _ (h.fixed _ _ hx hf) hf, fun x e hx he hl => ?_⟩
  obtain ⟨e1, h1, h2, h3⟩ := k.live x e (Nat.lt_of_lt_of_le hx h.len) he hl
  obtain ⟨e2, g1, g2, g3⟩ := h.live x e1 hx h1 h2
  exact ⟨e2, g1, g2, g3.trans h3⟩

theorem Step.refl (m : Mem) (ρ : LMap) (w : World) : Step m m ρ ρ w w :=
  ⟨.refl m, fun _ _ => rfl, fun b _ h1 h2 _ => absurd h2 (by omega), rfl, rfl, rfl, Nat.le_refl _, fun _ _ _ => rfl⟩

theorem Step.sub {m m' : Mem} {ρ ρ' : LMap} {w w' : World} (h : Step m m' ρ ρ' w w') (hf : Fresh m m' ρ) : Sub ρ ρ' := by
  intro b L e
  by_cases hb : b < m.length ∨ m'.length ≤ b
  · rw [h.old b hb]; exact e
  · have := hf b (by omega) (by omega)
    rw [this] at e; cases e

theorem Step.fresh {m m1 m2 : Mem} {ρ ρ1 : LMap} {w w1 : World} (h : Step m m1 ρ ρ1 w w1) (_hl : m1.length ≤ m2.length) (hf : Fresh m m2 ρ) : Fresh m1 m2 ρ1 := by
  intro b h1 h2
  rw [h.old b (.inr h1)]
  exact hf b (Nat.le_trans h.ab.len h1) h2

theorem Fresh.left {m m1 m2 : Mem} {ρ : LMap} (hf : Fresh m m2 ρ) (hl : m1.length ≤ m2.length) : Fresh m m1 ρ :=
  fun b h1 h2 => hf b h1 (Nat.lt_of_lt_of_le h2 hl)

theorem lt_of_get {α : Type} {l : List α} {i : Nat} {x : α} (h : l[i]? = some x) : i < l.length :=
  (List.getElem?_eq_some_iff.1 h).1

theorem Step.trans {m m1 m2 : Mem} {ρ ρ1 ρ2 : LMap} {w w1 w2 : World} (h : Step m m1 ρ ρ1 w w1) (k : Step m1 m2 ρ1 ρ2 w1 w2) : Step m m2 ρ ρ2 w w2 := by
  have hl := h.ab.len
  have kl := k.ab.len
  refine ⟨h.ab.trans k.ab, ?_, ?_, k.os.trans h.os, k.tape.trans h.tape, k.output.trans h.output, Nat.le_trans h.size k.size, ?_⟩
  · intro b hb
    rw [k.old b (by omega), h.old b (by omega)]
  · intro b L h1 h2 e
    by_cases hb : b < m1.length
    · rw [k.old b (.inl hb)] at e
      exact h.new b L h1 hb e
    · rcases k.new b L (by omega) h2 e with g | ⟨b0, L0, k0, g1, g2, g3, g4, g5⟩
      · exact .inl (Nat.le_trans h.size g)
      · by_cases hb0 : b0 < m.length
        · obtain ⟨k1, i1, i2, i3⟩ := h.ab.live b0 k0 hb0 g2 g3
          rw [h.old b0 (.inl hb0)] at g1
          exact .inr ⟨b0, L0, k1, g1, i1, i2, i3.trans g4, g5⟩
        · rcases h.new b0 L0 (by omega) (lt_of_get g2) g1 with j | ⟨b1, L1, k1, j1, j2, j3, j4, j5⟩
          · exact .inl (by rw [g5]; exact j)
          · exact .inr ⟨b1, L1, k1, j1, j2, j3, j4, g5.trans j5⟩
  · intro B hB hno
    rw [k.frame B (Nat.lt_of_lt_of_le hB h.size) ?_, h.frame B hB hno]
    intro b0 L0 k0 g1 g2 g3 g4 hBe
    by_cases hb0 : b0 < m.length
    · obtain ⟨k1, i1, i2, i3⟩ := h.ab.live b0 k0 hb0 g2 g3
      rw [h.old b0 (.inl hb0)] at g1
      exact hno b0 L0 k1 g1 i1 i2 (i3.trans g4) hBe
    · rcases h.new b0 L0 (by omega) (lt_of_get g2) g1 with j | ⟨b1, L1, k1, j1, j2, j3, j4, j5⟩
      · omega
      · exact hno b1 L1 k1 j1 j2 j3 j4 (j5 ▸ hBe)

end Go.Adm
