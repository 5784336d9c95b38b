/- Texts of this seat, joined (part 1 of 6): an abstract memory for Go programs, this seat's functions as abstract code, and what each of them does. -/
import Derived.WalkKit
import Derived.Below
import Derived.Orders
import Derived.Laws.StructEq
import Derived.WalkLawsBesides
import Derived.Laws.IdiomStrings
import Derived.Laws.MakeOwn
import Derived.Laws.Append
import Derived.Laws.BytesArg
import Derived.MapKept
import Derived.Laws.IdiomCopy
set_option linter.unusedSimpArgs false
set_option linter.defProp false
section
namespace Go.Adm
inductive AV where
 | bool (b : Bool)
 | int (k : IntKind) (n : Int)
 | str (s : ByteArray)
 | nilp
 | ptr (b o : Nat)
 | nils
 | sl (b o len cap s : Nat)
 | mapn
 | map (b : Nat)
 | fn (f : Fn) (first captured : List AV)
 | nilf
 | nili
 | iface (t : TypeId) (v : AV)
 | agg (l : List AV)
 | tup (l : List AV)
def AV.flat : AV → Bool
 | .agg _ => false
 | .tup _ => false
 | _ => true
def AV.solid : AV → Bool
 | .tup _ => false
 | _ => true
inductive Blk where
 | dead
 | row (cells : List AV) (ro : Bool)
 | map (es : List (AV × AV × Nat)) (clock : Nat)
def Blk.live : Blk → Bool
 | .dead => false
 | _ => true
def Blk.fixed : Blk → Bool
 | .row _ r => r
 | _ => false
structure Loc where
 blk : Nat
 base : Nat
 lim : Nat
abbrev LMap := Nat → Option Loc
abbrev Mem := List Blk
def Loc.addr (L : Loc) (o : Nat) : Addr := ⟨L.blk, L.base + o, none⟩
inductive VR (ρ : LMap) : AV → Value → Prop where
 | bool (b : Bool) : VR ρ (.bool b) (.bool b)
 | int (k : IntKind) (n : Int) : VR ρ (.int k n) (.int k n)
 | str (s : ByteArray) : VR ρ (.str s) (.string s)
 | nilp : VR ρ .nilp (.pointer none)
 | ptr {b o : Nat} {L : Loc} : ρ b = some L → VR ρ (.ptr b o) (.pointer (some (L.addr o)))
 | nils : VR ρ .nils (.slice none 0 0)
 | sl {b o len cap : Nat} {L : Loc} {a : Addr} : ρ b = some L → len ≤ cap → (0 < cap → a = L.addr o) → VR ρ (.sl b o len cap 0) (.slice (some a) len cap)
 | so {b o len cap s cap' : Nat} {L : Loc} {a : Addr} : ρ b = some L → 0 < s → cap ≤ cap' → len ≤ cap →
   (0 < cap' → a = L.addr o ∧ L.base + o + cap' * s ≤ L.lim) → VR ρ (.sl b o len cap s) (.slice (some a) len cap')
 | mapn : VR ρ .mapn (.map none)
 | map {b : Nat} {L : Loc} : ρ b = some L → VR ρ (.map b) (.map (some L.blk))
 | fn {f : Fn} {fs cs : List AV} {fs' cs' : Array Value} : fs.length = fs'.size → cs.length = cs'.size →
   (∀ (i : Nat) (x : AV) (y : Value), fs[i]? = some x → fs'[i]? = some y → VR ρ x y) → (∀ (i : Nat) (x : AV) (y : Value), cs[i]? = some x → cs'[i]? = some y → VR ρ x y) →
   VR ρ (.fn f fs cs) (.func f fs' cs')
 | nilf : VR ρ .nilf .nilFunc
 | nili : VR ρ .nili .nilIface
 | iface {t : TypeId} {v : AV} {v' : Value} : VR ρ v v' → VR ρ (.iface t v) (.iface t v')
 | agg {l : List AV} {l' : Array Value} : l.length = l'.size → l.all AV.flat = true → (∀ (i : Nat) (x : AV) (y : Value), l[i]? = some x → l'[i]? = some y → VR ρ x y) → VR ρ (.agg l) (.agg l')
 | tup {l : List AV} {l' : Array Value} : l.length = l'.size → (∀ (i : Nat) (x : AV) (y : Value), l[i]? = some x → l'[i]? = some y → VR ρ x y) → VR ρ (.tup l) (.tuple l')
def Sub (ρ ρ' : LMap) : Prop := ∀ b L, ρ b = some L → ρ' b = some L
def gl : List Nat := []
def okM : List (TypeId × String) := [(83, "Seal"), (83, "Open"), (83, "Sum")]
def Glob (ρ : LMap) : Prop := ∀ i g, gl[i]? = some g → ∃ lim, ρ i = some ⟨g, 0, lim⟩
theorem Glob.mono {ρ ρ' : LMap} (h : Sub ρ ρ') (g : Glob ρ) : Glob ρ' := fun i k e => let ⟨lim, q⟩ := g i k e; ⟨lim, h _ _ q⟩
theorem Sub.refl (ρ : LMap) : Sub ρ ρ := fun _ _ h => h
theorem Sub.trans {a b c : LMap} (h : Sub a b) (k : Sub b c) : Sub a c := fun _ _ e => k _ _ (h _ _ e)
theorem VR.mono {ρ ρ' : LMap} (h : Sub ρ ρ') {v : AV} {c : Value} (r : VR ρ v c) : VR ρ' v c := by
 induction r with
 | bool b => exact .bool b
 | int k n => exact .int k n
 | str s => exact .str s
 | nilp => exact .nilp
 | ptr e => exact .ptr (h _ _ e)
 | nils => exact .nils
 | sl e a b => exact .sl (h _ _ e) a b
 | so e a b c d => exact .so (h _ _ e) a b c d
 | mapn => exact .mapn
 | map e => exact .map (h _ _ e)
 | fn a b _ _ c d => exact .fn a b c d
 | nilf => exact .nilf
 | nili => exact .nili
 | iface _ i => exact .iface i
 | agg a b _ c => exact .agg a b c
 | tup a _ c => exact .tup a c
def FzOk (fz : Nat × Nat) (n : Nat) : Prop := fz.1 = fz.2 ∨ n ≤ fz.1
theorem FzOk.no {fz : Nat × Nat} {n : Nat} (h : FzOk fz n) (i : Nat) (hi : i < n) : ¬ (fz.1 ≤ i ∧ i < fz.2) := by
 unfold FzOk at h; omega
structure RowAt (ρ : LMap) (w : World) (L : Loc) (cells : List AV) (ro : Bool) : Prop where
 ex : ∃ C e fz, w.heap[L.blk]? = some (.cells C e fz) ∧ C.size = L.lim ∧ L.base + cells.length ≤ L.lim ∧
  (∀ (i : Nat) (v : AV), cells[i]? = some v → ∃ v', C[L.base + i]? = some v' ∧ VR ρ v v') ∧
  (ro = false → FzOk fz L.lim)
 flat : cells.all AV.flat = true
structure MapAt (ρ : LMap) (w : World) (L : Loc) (es : List (AV × AV × Nat)) (clock : Nat) : Prop where
 ex : ∃ es' : Array MapEntry, w.heap[L.blk]? = some (.map es' clock) ∧ es.length = es'.size ∧
  ∀ (i : Nat) (e : AV × AV × Nat) (e' : MapEntry), es[i]? = some e → es'[i]? = some e' → VR ρ e.1 e'.key ∧ VR ρ e.2.1 e'.val ∧ e'.born = e.2.2
structure Sim (m : Mem) (ρ : LMap) (w : World) : Prop where
 lt : ∀ b L, ρ b = some L → L.blk < w.heap.size
 row : ∀ b L cells r, ρ b = some L → m[b]? = some (.row cells r) → RowAt ρ w L cells r
 map : ∀ b L es clock, ρ b = some L → m[b]? = some (.map es clock) → MapAt ρ w L es clock
 apart : ∀ b1 b2 L1 L2 k1 k2, b1 ≠ b2 → ρ b1 = some L1 → ρ b2 = some L2 → m[b1]? = some k1 → m[b2]? = some k2 →
  k1.live = true → k2.live = true → (k1.fixed = false ∨ k2.fixed = false) → L1.blk ≠ L2.blk
structure AStep (m m' : Mem) : Prop where
 len : m.length ≤ m'.length
 fixed : ∀ (b : Nat) (k : Blk), m[b]? = some k → k.fixed = true → m'[b]? = some k
 live : ∀ (b : Nat) (k' : Blk), b < m.length → m'[b]? = some k' → k'.live = true → ∃ k, m[b]? = some k ∧ k.live = true ∧ k.fixed = k'.fixed
structure Step (m m' : Mem) (ρ ρ' : LMap) (w w' : World) : Prop where
 ab : AStep m m'
 old : ∀ b, b < m.length ∨ m'.length ≤ b → ρ' b = ρ b
 new : ∀ b L, m.length ≤ b → b < m'.length → ρ' b = some L →
  w.heap.size ≤ L.blk ∨ ∃ b0 L0 k0, ρ b0 = some L0 ∧ m[b0]? = some k0 ∧ k0.live = true ∧ k0.fixed = false ∧ L.blk = L0.blk
 os : w'.os = w.os
 tape : w'.tape = w.tape
 output : w'.output = w.output
 size : w.heap.size ≤ w'.heap.size
 frame : ∀ B, B < w.heap.size → (∀ b0 L0 k0, ρ b0 = some L0 → m[b0]? = some k0 → k0.live = true → k0.fixed = false → L0.blk ≠ B) → w'.heap[B]? = w.heap[B]?
def Fresh (m m' : Mem) (ρ : LMap) : Prop := ∀ b, m.length ≤ b → b < m'.length → ρ b = none
theorem AStep.refl (m : Mem) : AStep m m := ⟨Nat.le_refl _, fun _ _ h _ => h, fun _ k' _ h l => ⟨k', h, l, rfl⟩⟩
theorem AStep.trans {a b c : Mem} (h : AStep a b) (k : AStep b c) : AStep a c := by
 refine ⟨Nat.le_trans h.len k.len, fun x e hx hf => k.fixed _ _ (h.fixed _ _ hx hf) hf, fun x e hx he hl => ?_⟩
 obtain ⟨e1, h1, h2, h3⟩ := k.live x e (Nat.lt_of_lt_of_le hx h.len) he hl
 obtain ⟨e2, g1, g2, g3⟩ := h.live x e1 hx h1 h2
 exact ⟨e2, g1, g2, g3.trans h3⟩
theorem Step.refl (m : Mem) (ρ : LMap) (w : World) : Step m m ρ ρ w w :=
 ⟨.refl m, fun _ _ => rfl, fun b _ h1 h2 _ => absurd h2 (by omega), rfl, rfl, rfl, Nat.le_refl _, fun _ _ _ => rfl⟩
theorem Step.sub {m m' : Mem} {ρ ρ' : LMap} {w w' : World} (h : Step m m' ρ ρ' w w') (hf : Fresh m m' ρ) : Sub ρ ρ' := by
 intro b L e
 by_cases hb : b < m.length ∨ m'.length ≤ b
 ·rw [h.old b hb]; exact e
 ·have := hf b (by omega) (by omega)
  rw [this] at e; cases e
theorem Step.fresh {m m1 m2 : Mem} {ρ ρ1 : LMap} {w w1 : World} (h : Step m m1 ρ ρ1 w w1) (_hl : m1.length ≤ m2.length) (hf : Fresh m m2 ρ) : Fresh m1 m2 ρ1 := by
 intro b h1 h2
 rw [h.old b (.inr h1)]
 exact hf b (Nat.le_trans h.ab.len h1) h2
theorem Fresh.left {m m1 m2 : Mem} {ρ : LMap} (hf : Fresh m m2 ρ) (hl : m1.length ≤ m2.length) : Fresh m m1 ρ :=
 fun b h1 h2 => hf b h1 (Nat.lt_of_lt_of_le h2 hl)
theorem lt_of_get {α : Type} {l : List α} {i : Nat} {x : α} (h : l[i]? = some x) : i < l.length :=
 (List.getElem?_eq_some_iff.1 h).1
theorem Step.trans {m m1 m2 : Mem} {ρ ρ1 ρ2 : LMap} {w w1 w2 : World} (h : Step m m1 ρ ρ1 w w1) (k : Step m1 m2 ρ1 ρ2 w1 w2) : Step m m2 ρ ρ2 w w2 := by
 have hl := h.ab.len
 have kl := k.ab.len
 refine ⟨h.ab.trans k.ab, ?_, ?_, k.os.trans h.os, k.tape.trans h.tape, k.output.trans h.output, Nat.le_trans h.size k.size, ?_⟩
 ·intro b hb
  rw [k.old b (by omega), h.old b (by omega)]
 ·intro b L h1 h2 e
  by_cases hb : b < m1.length
  ·rw [k.old b (.inl hb)] at e
   exact h.new b L h1 hb e
  ·rcases k.new b L (by omega) h2 e with g | ⟨b0, L0, k0, g1, g2, g3, g4, g5⟩
   ·exact .inl (Nat.le_trans h.size g)
   ·by_cases hb0 : b0 < m.length
    ·obtain ⟨k1, i1, i2, i3⟩ := h.ab.live b0 k0 hb0 g2 g3
     rw [h.old b0 (.inl hb0)] at g1
     exact .inr ⟨b0, L0, k1, g1, i1, i2, i3.trans g4, g5⟩
    ·rcases h.new b0 L0 (by omega) (lt_of_get g2) g1 with j | ⟨b1, L1, k1, j1, j2, j3, j4, j5⟩
     ·exact .inl (by rw [g5]; exact j)
     ·exact .inr ⟨b1, L1, k1, j1, j2, j3, j4, g5.trans j5⟩
 ·intro B hB hno
  rw [k.frame B (Nat.lt_of_lt_of_le hB h.size) ?_, h.frame B hB hno]
  intro b0 L0 k0 g1 g2 g3 g4 hBe
  by_cases hb0 : b0 < m.length
  ·obtain ⟨k1, i1, i2, i3⟩ := h.ab.live b0 k0 hb0 g2 g3
   rw [h.old b0 (.inl hb0)] at g1
   exact hno b0 L0 k1 g1 i1 i2 (i3.trans g4) hBe
  ·rcases h.new b0 L0 (by omega) (lt_of_get g2) g1 with j | ⟨b1, L1, k1, j1, j2, j3, j4, j5⟩
   ·omega
   ·exact hno b1 L1 k1 j1 j2 j3 j4 (j5 ▸ hBe)
end Go.Adm
end
section
namespace Go.Adm
theorem RowAt.mono {ρ ρ' : LMap} {w w' : World} {L : Loc} {cells : List AV} {ro : Bool} (h : RowAt ρ w L cells ro) (hs : Sub ρ ρ')
  (hw : w'.heap[L.blk]? = w.heap[L.blk]?) : RowAt ρ' w' L cells ro := by
 obtain ⟨C, e, fz, h1, h2, h3, h4, h5⟩ := h.ex
 exact ⟨⟨C, e, fz, hw.trans h1, h2, h3, fun i v hv => let ⟨v', a, b⟩ := h4 i v hv; ⟨v', a, b.mono hs⟩, h5⟩, h.flat⟩
theorem MapAt.mono {ρ ρ' : LMap} {w w' : World} {L : Loc} {es : List (AV × AV × Nat)} {c : Nat} (h : MapAt ρ w L es c) (hs : Sub ρ ρ')
  (hw : w'.heap[L.blk]? = w.heap[L.blk]?) : MapAt ρ' w' L es c := by
 obtain ⟨es', h1, h2, h3⟩ := h.ex
 exact ⟨es', hw.trans h1, h2, fun i e e' he he' => let ⟨a, b, c⟩ := h3 i e e' he he'; ⟨a.mono hs, b.mono hs, c⟩⟩
def upd (ρ : LMap) (b : Nat) (L : Loc) : LMap := fun x => if x = b then some L else ρ x
theorem upd_same (ρ : LMap) (b : Nat) (L : Loc) : upd ρ b L b = some L := if_pos rfl
theorem upd_ne (ρ : LMap) {b x : Nat} (L : Loc) (h : x ≠ b) : upd ρ b L x = ρ x := if_neg h
theorem upd_sub {ρ : LMap} {b : Nat} (L : Loc) (h : ρ b = none) : Sub ρ (upd ρ b L) := by
 intro x X hx
 by_cases e : x = b
 ·subst e; rw [h] at hx; cases hx
 ·rw [upd_ne _ _ e]; exact hx
theorem Sim.put_new {m m' : Mem} {ρ : LMap} {w : World} (h : Sim m ρ w) {id : Nat} {k : Blk} (o : Obj) {lim : Nat} (hρ : ρ id = none)
  (hid : m'[id]? = some k) (ho : ∀ x, x ≠ id → ∀ y, m'[x]? = some y → y.live = true → m[x]? = some y)
  (hrow : ∀ cells r, k = .row cells r → RowAt (upd ρ id ⟨w.heap.size, 0, lim⟩) (w.alloc o) ⟨w.heap.size, 0, lim⟩ cells r)
  (hmap : ∀ es c, k = .map es c → MapAt (upd ρ id ⟨w.heap.size, 0, lim⟩) (w.alloc o) ⟨w.heap.size, 0, lim⟩ es c) :
  Sim m' (upd ρ id ⟨w.heap.size, 0, lim⟩) (w.alloc o) := by
 have hsub := upd_sub ⟨w.heap.size, 0, lim⟩ hρ
 have hsz : (w.alloc o).heap.size = w.heap.size + 1 := by simp
 have same : ∀ B, B < w.heap.size → (w.alloc o).heap[B]? = w.heap[B]? := fun B hB => RowKit.Below.heap_alloc w o B hB
 refine ⟨?_, ?_, ?_, ?_⟩
 ·intro b L hb
  by_cases e : b = id
  ·subst e; rw [upd_same] at hb; cases hb; rw [hsz]; exact Nat.lt_succ_self _
  ·rw [upd_ne _ _ e] at hb; have := h.lt b L hb; omega
 ·intro b L cells r hb hm
  by_cases e : b = id
  ·subst e; rw [upd_same] at hb; cases hb
   rw [hid] at hm; cases hm
   exact hrow _ _ rfl
  ·rw [upd_ne _ _ e] at hb
   exact (h.row b L cells r hb (ho b e _ hm rfl)).mono hsub (same _ (h.lt b L hb))
 ·intro b L es c hb hm
  by_cases e : b = id
  ·subst e; rw [upd_same] at hb; cases hb
   rw [hid] at hm; cases hm
   exact hmap _ _ rfl
  ·rw [upd_ne _ _ e] at hb
   exact (h.map b L es c hb (ho b e _ hm rfl)).mono hsub (same _ (h.lt b L hb))
 ·intro b1 b2 L1 L2 k1 k2 hne h1 h2 g1 g2 l1 l2 f
  by_cases e1 : b1 = id
  ·subst e1; rw [upd_same] at h1; cases h1
   rw [upd_ne _ _ (Ne.symm hne)] at h2
   have := h.lt _ _ h2
   simp only; omega
  ·rw [upd_ne _ _ e1] at h1
   by_cases e2 : b2 = id
   ·subst e2; rw [upd_same] at h2; cases h2
    have := h.lt _ _ h1
    simp only; omega
   ·rw [upd_ne _ _ e2] at h2
    exact h.apart b1 b2 L1 L2 k1 k2 hne h1 h2 (ho b1 e1 _ g1 l1) (ho b2 e2 _ g2 l2) l1 l2 f
theorem get_append_self {m : Mem} {k : Blk} : (m ++ [k])[m.length]? = some k := by simp
theorem get_append_ne {m : Mem} {k y : Blk} {x : Nat} (h : x ≠ m.length) (e : (m ++ [k])[x]? = some y) : m[x]? = some y := by
 have hlt := lt_of_get e
 simp only [List.length_append, List.length_singleton] at hlt
 rwa [List.getElem?_append_left (by omega)] at e
theorem AStep.push (m : Mem) (k : Blk) : AStep m (m ++ [k]) := by
 refine ⟨by simp, fun b x h _ => ?_, fun b x hb h l => ?_⟩
 ·rw [List.getElem?_append_left (lt_of_get h)]; exact h
 ·rw [List.getElem?_append_left hb] at h; exact ⟨x, h, l, rfl⟩
theorem Step.push {m : Mem} {ρ : LMap} {w : World} (k : Blk) (o : Obj) (lim : Nat) :
  Step m (m ++ [k]) ρ (upd ρ m.length ⟨w.heap.size, 0, lim⟩) w (w.alloc o) := by
 refine ⟨.push m k, fun b hb => ?_, fun b L h1 h2 e => ?_, rfl, rfl, rfl, by simp, fun B hB _ => RowKit.Below.heap_alloc w o B hB⟩
 ·simp only [List.length_append, List.length_singleton] at hb
  exact upd_ne _ _ (by omega)
 ·simp only [List.length_append, List.length_singleton] at h2
  obtain rfl : b = m.length := by omega
  rw [upd_same] at e; cases e
  exact .inl (Nat.le_refl _)
theorem Sim.change {m m' : Mem} {ρ : LMap} {w w' : World} (h : Sim m ρ w) {b : Nat} {L : Loc} {cells cells' : List AV} (hb : ρ b = some L)
  (hm : m[b]? = some (.row cells false)) (hm' : m'[b]? = some (.row cells' false)) (ho : ∀ x, x ≠ b → m'[x]? = m[x]?)
  (hrow : RowAt ρ w' L cells' false) (hw : ∀ B, B ≠ L.blk → w'.heap[B]? = w.heap[B]?) (hs : w'.heap.size = w.heap.size) : Sim m' ρ w' := by
 have other : ∀ (x : Nat) (X : Loc) (k : Blk), x ≠ b → ρ x = some X → m[x]? = some k → k.live = true → w'.heap[X.blk]? = w.heap[X.blk]? := fun x X k hne hx hk hl =>
  hw _ (h.apart x b X L k _ hne hx hb hk hm hl rfl (.inr rfl))
 refine ⟨fun x X hx => by rw [hs]; exact h.lt x X hx, ?_, ?_, ?_⟩
 ·intro x X cs r hx hk
  by_cases e : x = b
  ·subst e; rw [hm'] at hk; cases hk; rw [hb] at hx; cases hx; exact hrow
  ·rw [ho x e] at hk
   exact (h.row x X cs r hx hk).mono (.refl _) (other x X _ e hx hk rfl)
 ·intro x X es c hx hk
  by_cases e : x = b
  ·subst e; rw [hm'] at hk; cases hk
  ·rw [ho x e] at hk
   exact (h.map x X es c hx hk).mono (.refl _) (other x X _ e hx hk rfl)
 ·intro b1 b2 L1 L2 k1 k2 hne h1 h2 g1 g2 l1 l2 f
  have look : ∀ (x : Nat) (k : Blk), m'[x]? = some k → k.live = true → ∃ k', m[x]? = some k' ∧ k'.live = true ∧ k'.fixed = k.fixed := by
   intro x k hk hl
   by_cases e : x = b
   ·subst e; rw [hm'] at hk; cases hk; exact ⟨_, hm, rfl, rfl⟩
   ·rw [ho x e] at hk; exact ⟨k, hk, hl, rfl⟩
  obtain ⟨k1', a1, b1', c1⟩ := look _ _ g1 l1
  obtain ⟨k2', a2, b2', c2⟩ := look _ _ g2 l2
  exact h.apart b1 b2 L1 L2 k1' k2' hne h1 h2 a1 a2 b1' b2' (by rw [c1, c2]; exact f)
theorem Sim.changeM {m m' : Mem} {ρ : LMap} {w w' : World} (h : Sim m ρ w) {b : Nat} {L : Loc} {es es' : List (AV × AV × Nat)} {c c' : Nat} (hb : ρ b = some L)
  (hm : m[b]? = some (.map es c)) (hm' : m'[b]? = some (.map es' c')) (ho : ∀ x, x ≠ b → m'[x]? = m[x]?)
  (hmap : MapAt ρ w' L es' c') (hw : ∀ B, B ≠ L.blk → w'.heap[B]? = w.heap[B]?) (hs : w'.heap.size = w.heap.size) : Sim m' ρ w' := by
 have other : ∀ (x : Nat) (X : Loc) (k : Blk), x ≠ b → ρ x = some X → m[x]? = some k → k.live = true → w'.heap[X.blk]? = w.heap[X.blk]? := fun x X k hne hx hk hl =>
  hw _ (h.apart x b X L k _ hne hx hb hk hm hl rfl (.inr rfl))
 refine ⟨fun x X hx => by rw [hs]; exact h.lt x X hx, ?_, ?_, ?_⟩
 ·intro x X cs r hx hk
  by_cases e : x = b
  ·subst e; rw [hm'] at hk; cases hk
  ·rw [ho x e] at hk
   exact (h.row x X cs r hx hk).mono (.refl _) (other x X _ e hx hk rfl)
 ·intro x X es c hx hk
  by_cases e : x = b
  ·subst e; rw [hm'] at hk; cases hk; rw [hb] at hx; cases hx; exact hmap
  ·rw [ho x e] at hk
   exact (h.map x X es c hx hk).mono (.refl _) (other x X _ e hx hk rfl)
 ·intro b1 b2 L1 L2 k1 k2 hne h1 h2 g1 g2 l1 l2 f
  have look : ∀ (x : Nat) (k : Blk), m'[x]? = some k → k.live = true → ∃ k', m[x]? = some k' ∧ k'.live = true ∧ k'.fixed = k.fixed := by
   intro x k hk hl
   by_cases e : x = b
   ·subst e; rw [hm'] at hk; cases hk; exact ⟨_, hm, rfl, rfl⟩
   ·rw [ho x e] at hk; exact ⟨k, hk, hl, rfl⟩
  obtain ⟨k1', a1, b1', c1⟩ := look _ _ g1 l1
  obtain ⟨k2', a2, b2', c2⟩ := look _ _ g2 l2
  exact h.apart b1 b2 L1 L2 k1' k2' hne h1 h2 a1 a2 b1' b2' (by rw [c1, c2]; exact f)
theorem AStep.set {m : Mem} {b : Nat} {k k' : Blk} (hk : m[b]? = some k) (hf : k.fixed = false) (hl : k'.live = true → k.live = true ∧ k'.fixed = false) : AStep m (m.set b k') := by
 refine ⟨by simp, fun x y hx hy => ?_, fun x y hx hy l => ?_⟩
 ·by_cases e : b = x
  ·subst e; rw [hk] at hx; cases hx; rw [hf] at hy; cases hy
  ·rw [List.getElem?_set_ne e]; exact hx
 ·by_cases e : b = x
  ·subst e
   rw [List.getElem?_set_self hx] at hy; cases hy
   exact ⟨k, hk, (hl l).1, by rw [hf, (hl l).2]⟩
  ·rw [List.getElem?_set_ne e] at hy; exact ⟨y, hy, l, rfl⟩
theorem Step.change {m : Mem} {ρ : LMap} {w w' : World} {b : Nat} {L : Loc} {k k' : Blk} (hb : ρ b = some L)
  (hm : m[b]? = some k) (hl0 : k.live = true) (hf : k.fixed = false) (hf' : k'.fixed = false) (hw : ∀ B, B ≠ L.blk → w'.heap[B]? = w.heap[B]?) (hs : w'.heap.size = w.heap.size)
  (h1 : w'.os = w.os) (h2 : w'.tape = w.tape) (h3 : w'.output = w.output) : Step m (m.set b k') ρ ρ w w' := by
 refine ⟨.set hm hf (fun _ => ⟨hl0, hf'⟩), fun _ _ => rfl, fun x _ g1 g2 _ => ?_, h1, h2, h3, by omega, fun B hB hno => ?_⟩
 ·simp only [List.length_set] at g2; omega
 ·exact hw B fun e => hno b L k hb hm hl0 hf e.symm
theorem Sim.cell {m : Mem} {ρ : LMap} {w : World} (h : Sim m ρ w) {b : Nat} {L : Loc} {cells : List AV} {r : Bool} (hb : ρ b = some L)
  (hm : m[b]? = some (.row cells r)) {i : Nat} {v : AV} (hv : cells[i]? = some v) : ∃ v', w.cell? (L.addr i) = some v' ∧ VR ρ v v' := by
 obtain ⟨C, e, fz, h1, h2, h3, h4, h5⟩ := (h.row b L cells r hb hm).ex
 obtain ⟨v', a, b⟩ := h4 i v hv
 exact ⟨v', by simp [World.cell?, Loc.addr, h1, a], b⟩
end Go.Adm
end
section
namespace Go.Adm
def cellsV : AV → List AV
 | .agg l => l
 | v => [v]
def splice (cells : List AV) (o : Nat) (new : List AV) : List AV := cells.take o ++ new ++ cells.drop (o + new.length)
def rep (n : Nat) (zero : List AV) : List AV := (List.replicate n zero).flatten
inductive AX where
 | t (n : Nat)
 | c (v : AV)
inductive CK where
 | b
 | i
 | s
inductive EK where
 | bool
 | int
 | str
 | ptr
 | slice
 | fn
inductive MK where
 | one (c : CK)
 | agg (ks : List CK)
inductive AK where
 | mv
 | pick
 | nilCheck
 | arith (op : BinOp)
 | shift (op : BinOp)
 | cmp (op : BinOp)
 | eq (neg : Bool) (e : EK)
 | eqAgg (neg : Bool) (ks : List CK)
 | not
 | neg
 | bnot
 | conv (k : IntKind)
 | arrPtr (n : Nat)
 | mkFn (f : Fn) (nfirst : Nat)
 | slice (size : Nat) (lo hi mx : Bool)
 | sliceArr (n size : Nat) (lo hi mx : Bool)
 | fieldAddr (off : Nat)
 | part (off size : Nat) (agg : Bool)
 | idxAddr (size : Nat)
 | idxAddrArr (n size : Nat)
 | idxArr (n size : Nat) (agg : Bool)
 | idxStr
 | extract (i : Nat)
 | build (zero : List AV) (places : List (Nat × Nat))
 | len
 | lenStr
 | lenArr (n : Nat)
 | min
 | max
 | iface (t : TypeId)
 | load (agg : Bool) (n : Nat)
 | alloc (zero : List AV)
 | box
 | mkSlice (zero : List AV) (bytes : Nat)
 | mkSl (len : Nat) (zero : List AV) (places : List (Nat × Nat))
 | s2b
 | mark
 | cap
 | no
 | b2s
 | lenMap
 | mkMap
 | lookup (k : MK) (zero : AV) (ok : Bool)
 | mapSet (k : MK)
 | mapDel (k : MK)
 | mapClr
 | store (n : Nat)
 | append (size bytes : Nat)
 | appendZ (zero : List AV) (bytes : Nat)
 | copy (size : Nat)
 | call (f : FuncId)
 | callv
 | invoke (name : String)
inductive Cls where
 | pure
 | read
 | make
 | write
 | call
def AK.cls : AK → Cls
 | .load .. => .read
 | .alloc _ => .make
 | .box => .make
 | .mkSlice .. => .make
 | .mkSl .. => .make
 | .s2b => .make
 | .mark => .read
 | .b2s => .read
 | .lenMap => .read
 | .lookup .. => .read
 | .mkMap => .make
 | .mapSet _ => .write
 | .mapDel _ => .write
 | .mapClr => .write
 | .store _ => .write
 | .append .. => .write
 | .appendZ .. => .write
 | .copy _ => .write
 | .call _ => .call
 | .callv => .call
 | .invoke _ => .call
 | _ => .pure
def aArith (op : BinOp) (k : IntKind) (x y : Int) : Option Int :=
 match op with
 | .add => some (k.wrap (x + y))
 | .sub => some (k.wrap (x - y))
 | .mul => some (k.wrap (x * y))
 | .quo => if y = 0 then none else some (k.wrap (x.tdiv y))
 | .rem => if y = 0 then none else some (x.tmod y)
 | .and => some (k.wrap (BitVec.ofInt k.bits x &&& BitVec.ofInt k.bits y).toNat)
 | .or => some (k.wrap (BitVec.ofInt k.bits x ||| BitVec.ofInt k.bits y).toNat)
 | .xor => some (k.wrap (BitVec.ofInt k.bits x ^^^ BitVec.ofInt k.bits y).toNat)
 | .andNot => some (k.wrap (BitVec.ofInt k.bits x &&& ~~~ BitVec.ofInt k.bits y).toNat)
 | _ => none
def aShift (op : BinOp) (k : IntKind) (x y : Int) : Option Int :=
 match op with
 | .shl => if y < 0 then none else some (k.wrap (x * 2 ^ Nat.min y.toNat k.bits))
 | .shr => if y < 0 then none else some (x.fdiv (2 ^ Nat.min y.toNat k.bits))
 | _ => none
def aCmp (op : BinOp) (x y : Int) : Option Bool :=
 match op with
 | .lss => some (decide (x < y))
 | .leq => some (decide (x ≤ y))
 | .gtr => some (decide (x > y))
 | .geq => some (decide (x ≥ y))
 | _ => none
def aEqCk : CK → AV → AV → Option Bool
 | .b, .bool a, .bool b => some (a == b)
 | .i, .int k a, .int k' b => if k = k' then some (a == b) else none
 | .s, .str a, .str b => some (a == b)
 | _, _, _ => none
def aEqCells : List CK → List AV → List AV → Option Bool
 | [], [], [] => some true
 | c :: ks, a :: as, b :: bs => (aEqCk c a b).bind fun x => (aEqCells ks as bs).map fun y => x && y
 | _, _, _ => none
def aEq : EK → AV → AV → Option Bool
 | .bool, .bool x, .bool y => some (x == y)
 | .int, .int k x, .int k' y => if k = k' then some (x == y) else none
 | .str, .str x, .str y => some (x == y)
 | .ptr, .nilp, .nilp => some true
 | .ptr, .nilp, .ptr .. => some false
 | .ptr, .ptr .., .nilp => some false
 | .slice, .nils, .nils => some true
 | .slice, .nils, .sl .. => some false
 | .slice, .sl .., .nils => some false
 | .fn, .nilf, .nilf => some true
 | .fn, .nilf, .fn .. => some false
 | .fn, .fn .., .nilf => some false
 | _, _, _ => none
def mapEq : MK → AV → AV → Option Bool
 | .one c, a, b => aEqCk c a b
 | .agg ks, .agg a, .agg b => aEqCells ks a b
 | _, _, _ => none
def aFind (k : MK) (key : AV) : List (AV × AV × Nat) → Nat → Option (Option (Nat × AV))
 | [], _ => some none
 | e :: es, i => (mapEq k key e.1).bind fun r => match r with
  | true => some (some (i, e.2.1))
  | false => aFind k key es (i + 1)
def keyFits : MK → AV → Bool
 | .one .b, .bool _ => true
 | .one .i, .int _ _ => true
 | .one .s, .str _ => true
 | .agg ks, .agg l => l.length == ks.length
 | _, _ => false
def bnd (v : AV) (y : Nat) : Option Nat :=
 match v with
 | .int _ i => if 0 ≤ i ∧ i ≤ y then some i.toNat else none
 | _ => none
def bounds (lo hi mx : Bool) (len cap : Nat) (vs : List AV) : Option (Nat × Nat × Nat) :=
 match lo, hi, mx, vs with
 | false, false, false, [] => some (0, len, cap)
 | true, false, false, [l] => (bnd l len).map fun l => (l, len, cap)
 | false, true, false, [h] => (bnd h cap).map fun h => (0, h, cap)
 | true, true, false, [l, h] => (bnd h cap).bind fun h => (bnd l h).map fun l => (l, h, cap)
 | false, true, true, [h, m] => (bnd m cap).bind fun m => (bnd h m).map fun h => (0, h, m)
 | true, true, true, [l, h, m] => (bnd m cap).bind fun m => (bnd h m).bind fun h => (bnd l h).map fun l => (l, h, m)
 | _, _, _, _ => none
def aPart (off size : Nat) (agg : Bool) (l : List AV) : Option AV :=
 match agg with
 | true => if off + size ≤ l.length then some (.agg ((l.drop off).take size)) else none
 | false => l[off]?
def aFill : List AV → List (Nat × Nat) → List AV → Option (List AV)
 | cells, [], [] => some cells
 | cells, (off, sz) :: ps, v :: vs => if (cellsV v).length = sz ∧ off + sz ≤ cells.length ∧ v.solid = true then aFill (splice cells off (cellsV v)) ps vs else none
 | _, _, _ => none
def aPick (c : Bool) (a b : AV) : AV :=
 match c with
 | true => a
 | false => b
def pMv : List AV → Option AV
 | [v] => some v
 | _ => none
def pPick : List AV → Option AV
 | [.bool c, a, b] => some (aPick c a b)
 | _ => none
def pNil : List AV → Option AV
 | [.ptr b o] => some (.ptr b o)
 | [.fn (.func f) a b] => some (.fn (.func f) a b)
 | [.fn (.method n) [.iface t (.ptr b o)] []] => if okM.contains (t, n) = true then some (.fn (.method n) [.iface t (.ptr b o)] []) else none
 | _ => none
def pArith (op : BinOp) : List AV → Option AV
 | [.int k a, .int k' b] => if k = k' then (aArith op k a b).map (.int k) else none
 | _ => none
def pShift (op : BinOp) : List AV → Option AV
 | [.int k a, .int _ b] => (aShift op k a b).map (.int k)
 | _ => none
def pCmp (op : BinOp) : List AV → Option AV
 | [.int k a, .int k' b] => if k = k' then (aCmp op a b).map .bool else none
 | _ => none
def pEq (neg : Bool) (e : EK) : List AV → Option AV
 | [a, b] => (aEq e a b).map fun r => .bool (if neg then !r else r)
 | _ => none
def pEqAgg (neg : Bool) (ks : List CK) : List AV → Option AV
 | [.agg a, .agg b] => (aEqCells ks a b).map fun r => .bool (if neg then !r else r)
 | _ => none
def pNot : List AV → Option AV
 | [.bool b] => some (.bool !b)
 | _ => none
def pNeg : List AV → Option AV
 | [.int k n] => some (.int k (k.wrap (0 - n)))
 | _ => none
def pBnot : List AV → Option AV
 | [.int k n] => (aArith .xor k (if k.signed then -1 else k.max) n).map (.int k)
 | _ => none
def pConv (k : IntKind) : List AV → Option AV
 | [.int _ n] => some (.int k (k.wrap n))
 | _ => none
def pArrPtr (n : Nat) : List AV → Option AV
 | [.sl b o len _ _] => if 0 < n ∧ n ≤ len then some (.ptr b o) else none
 | _ => none
def pSlice (size : Nat) (lo hi mx : Bool) : List AV → Option AV
 | .sl b o len cap s :: vs =>
  if s = 0 ∨ s = size then (bounds lo hi mx len cap vs).map fun (l, h, m) => .sl b (o + l * size) (h - l) (m - l) (if mx then 0 else s) else none
 | .nils :: vs => (bounds lo hi mx 0 0 vs).map fun _ => .nils
 | _ => none
def pSliceArr (n size : Nat) (lo hi mx : Bool) : List AV → Option AV
 | .ptr b o :: vs => (bounds lo hi mx n n vs).map fun (l, h, m) => .sl b (o + l * size) (h - l) (m - l) 0
 | _ => none
def pFieldAddr (off : Nat) : List AV → Option AV
 | [.ptr b o] => some (.ptr b (o + off))
 | _ => none
def pPart (off size : Nat) (agg : Bool) : List AV → Option AV
 | [.agg l] => aPart off size agg l
 | _ => none
def pIdxAddr (size : Nat) : List AV → Option AV
 | [.sl b o len _ _, .int _ i] => if 0 ≤ i ∧ i < len then some (.ptr b (o + i.toNat * size)) else none
 | _ => none
def pIdxAddrArr (n size : Nat) : List AV → Option AV
 | [.ptr b o, .int _ i] => if 0 ≤ i ∧ i < n then some (.ptr b (o + i.toNat * size)) else none
 | _ => none
def pIdxArr (n size : Nat) (agg : Bool) : List AV → Option AV
 | [.agg l, .int _ i] => if 0 ≤ i ∧ i < n then aPart (i.toNat * size) size agg l else none
 | _ => none
def pIdxStr : List AV → Option AV
 | [.str s, .int _ i] => if 0 ≤ i then (s[i.toNat]?).map fun b => .int .u8 b.toNat else none
 | _ => none
def pExtract (i : Nat) : List AV → Option AV
 | [.tup l] => l[i]?
 | _ => none
def pLen : List AV → Option AV
 | [.sl _ _ len _ _] => some (.int .i64 len)
 | [.nils] => some (.int .i64 0)
 | _ => none
def pCap : List AV → Option AV
 | [.sl _ _ _ cap 0] => some (.int .i64 cap)
 | [.nils] => some (.int .i64 0)
 | _ => none
def pLenStr : List AV → Option AV
 | [.str s] => some (.int .i64 s.size)
 | _ => none
def pLenArr (n : Nat) : List AV → Option AV
 | [_] => some (.int .i64 n)
 | _ => none
def pMin : List AV → Option AV
 | [.int k a, .int _ b] => some (.int k (if b < a then b else a))
 | [.int k a, .int _ b, .int _ c] => some (.int k (min (min a b) c))
 | _ => none
def pMax : List AV → Option AV
 | [.int k a, .int _ b] => some (.int k (if b > a then b else a))
 | _ => none
def pIface (t : TypeId) : List AV → Option AV
 | [v] => some (.iface t v)
 | _ => none
def aP : AK → List AV → Option AV
 | .mv => pMv
 | .pick => pPick
 | .nilCheck => pNil
 | .arith op => pArith op
 | .shift op => pShift op
 | .cmp op => pCmp op
 | .eq neg e => pEq neg e
 | .eqAgg neg ks => pEqAgg neg ks
 | .not => pNot
 | .neg => pNeg
 | .bnot => pBnot
 | .conv k => pConv k
 | .arrPtr n => pArrPtr n
 | .mkFn f nf => fun vs => some (.fn f (vs.take nf) (vs.drop nf))
 | .slice size lo hi mx => pSlice size lo hi mx
 | .sliceArr n size lo hi mx => pSliceArr n size lo hi mx
 | .fieldAddr off => pFieldAddr off
 | .part off size agg => pPart off size agg
 | .idxAddr size => pIdxAddr size
 | .idxAddrArr n size => pIdxAddrArr n size
 | .idxArr n size agg => pIdxArr n size agg
 | .idxStr => pIdxStr
 | .extract i => pExtract i
 | .build zero places => fun vs => (aFill zero places vs).map .agg
 | .len => pLen
 | .cap => pCap
 | .lenStr => pLenStr
 | .lenArr n => pLenArr n
 | .min => pMin
 | .max => pMax
 | .iface t => pIface t
 | _ => fun _ => none
def rowOf (m : Mem) (b : Nat) : Option (List AV) :=
 match m[b]? with
 | some (.row cells _) => some cells
 | _ => none
def own (m : Mem) (b : Nat) : Option (List AV) :=
 match m[b]? with
 | some (.row cells false) => some cells
 | _ => none
def rLoad (agg : Bool) (n : Nat) (m : Mem) : List AV → Option AV
 | [.ptr b o] => (rowOf m b).bind (aPart o n agg)
 | _ => none
def rMark (m : Mem) : List AV → Option AV
 | [.sl b o len cap s] => if 0 < len ∧ (own m b).isSome = true then some (.sl b o len cap s) else none
 | _ => none
def elems (size n : Nat) (v : AV) (m : Mem) : Option (List AV) :=
 match v with
 | .nils => if n = 0 then some [] else none
 | .sl b o len _ _ => if n = 0 then some [] else if n ≤ len then (rowOf m b).bind fun cells => if o + n * size ≤ cells.length then some ((cells.drop o).take (n * size)) else none else none
 | _ => none
def bytesA : List AV → Option (List UInt8)
 | [] => some []
 | .int .u8 n :: l => (bytesA l).map (UInt8.ofNat n.toNat :: ·)
 | _ => none
def rB2s (m : Mem) : List AV → Option AV
 | [.nils] => some (.str .empty)
 | [.sl b o len cap s] => (elems 1 len (.sl b o len cap s) m).bind fun cells => (bytesA cells).map fun l => .str ⟨l.toArray⟩
 | _ => none
def mapOf (m : Mem) (b : Nat) : Option (List (AV × AV × Nat) × Nat) :=
 match m[b]? with
 | some (.map es c) => some (es, c)
 | _ => none
def rLenMap (m : Mem) : List AV → Option AV
 | [.map b] => (mapOf m b).map fun p => .int .i64 p.1.length
 | [.mapn] => some (.int .i64 0)
 | _ => none
def lookRes (zero : AV) (ok : Bool) : Option (Nat × AV) → AV
 | some (_, v) => if ok then .tup [v, .bool true] else v
 | none => if ok then .tup [zero, .bool false] else zero
def rLookup (k : MK) (zero : AV) (ok : Bool) (m : Mem) : List AV → Option AV
 | [.map b, key] => if keyFits k key = true then (mapOf m b).bind fun p => (aFind k key p.1 0).map (lookRes zero ok) else none
 | _ => none
def aR : AK → List AV → Mem → Option AV
 | .b2s => fun vs m => rB2s m vs
 | .lenMap => fun vs m => rLenMap m vs
 | .lookup k zero ok => fun vs m => rLookup k zero ok m vs
 | .load agg n => fun vs m => rLoad agg n m vs
 | .mark => fun vs m => rMark m vs
 | _ => fun _ _ => none
def mkAlloc (zero : List AV) : List AV → Option (Blk × (Nat → AV))
 | [] => some (.row zero false, fun id => .ptr id 0)
 | _ => none
def mkBox : List AV → Option (Blk × (Nat → AV))
 | [v] => if v.solid = true then some (.row (cellsV v) false, fun id => .ptr id 0) else none
 | _ => none
def mkMake (zero : List AV) (bytes : Nat) : List AV → Option (Blk × (Nat → AV))
 | [.int _ l, .int _ c] =>
  if 0 ≤ l ∧ l ≤ c ∧ c * bytes ≤ 1099511627776 ∧ c ≤ 1099511627776 then some (.row (rep c.toNat zero) false, fun id => .sl id 0 l.toNat c.toNat 0) else none
 | _ => none
def strCells (s : ByteArray) : List AV := s.data.toList.map fun b => .int .u8 b.toNat
def mkS2b : List AV → Option (Blk × (Nat → AV))
 | [.str s] => some (.row (strCells s) false, fun id => .sl id 0 s.size s.size 1)
 | _ => none
def mkMp : List AV → Option (Blk × (Nat → AV))
 | [] => some (.map [] 0, fun id => .map id)
 | _ => none
def aA : AK → List AV → Option (Blk × (Nat → AV))
 | .mkMap => mkMp
 | .s2b => mkS2b
 | .alloc zero => mkAlloc zero
 | .box => mkBox
 | .mkSlice zero bytes => mkMake zero bytes
 | .mkSl n zero places => fun vs => (aFill zero places vs).map fun cells => (.row cells false, fun id => .sl id 0 n n 0)
 | _ => fun _ => none
def lenA : AV → Option Nat
 | .nils => some 0
 | .sl _ _ len _ _ => some len
 | _ => none
def aAppend (size bytes : Nat) (s x : AV) (m : Mem) : Option (AV × Mem) :=
 (lenA x).bind fun n =>
 if n = 0 then (if (lenA s).isSome then some (s, m) else none) else
 (elems size n x m).bind fun new =>
 match s with
 | .nils => if n * bytes ≤ 1099511627776 ∧ n ≤ 1099511627776 then some (.sl m.length 0 n n size, m ++ [.row new false]) else none
 | .sl b o len cap sz =>
  if len + n ≤ cap then
   (own m b).bind fun cells => if o + (len + n) * size ≤ cells.length ∧ (sz = 0 ∨ sz = size) then some (.sl b o (len + n) cap sz, m.set b (.row (splice cells (o + len * size) new) false)) else none
  else if (len + n) * bytes ≤ 1099511627776 ∧ len + n ≤ 1099511627776 then
   (elems size len s m).bind fun old =>
   match sz with
   | 0 => some (.sl m.length 0 (len + n) (len + n) size, m ++ [.row (old ++ new) false])
   | _ + 1 => (own m b).bind fun cells => if o + cap * size = cells.length ∧ sz = size then some (.sl m.length 0 (len + n) (len + n) size, m.set b .dead ++ [.row (old ++ new) false]) else none
  else none
 | _ => none
def aAppendZ (zero : List AV) (bytes : Nat) (s x : AV) (m : Mem) : Option (AV × Mem) :=
 match s, x with
 | .nils, .int _ n => if 0 < n ∧ n * bytes ≤ 1099511627776 ∧ n ≤ 1099511627776 then some (.sl m.length 0 n.toNat n.toNat zero.length, m ++ [.row (rep n.toNat zero) false]) else none
 | _, _ => none
def aCopy (size : Nat) (d x : AV) (m : Mem) : Option (AV × Mem) :=
 (lenA x).bind fun ln => (lenA d).bind fun ld =>
 let n := Nat.min ln ld
 if n = 0 then some (.int .i64 0, m) else
 (elems size n x m).bind fun new =>
 match d with
 | .sl b o _ _ _ => (own m b).bind fun cells => if o + n * size ≤ cells.length then some (.int .i64 n, m.set b (.row (splice cells o new) false)) else none
 | _ => none
def aStore (n : Nat) (p v : AV) (m : Mem) : Option (AV × Mem) :=
 match p with
 | .ptr b o => (own m b).bind fun cells =>
  if (cellsV v).length = n ∧ o + n ≤ cells.length ∧ v.solid = true then some (.tup [], m.set b (.row (splice cells o (cellsV v)) false)) else none
 | _ => none
def aPutMap (k : MK) (key val : AV) (es : List (AV × AV × Nat)) (clock : Nat) : Option (List (AV × AV × Nat) × Nat) :=
 (aFind k key es 0).map fun r => match r with
  | some (i, _) => (es.set i (key, val, ((es[i]?).map (·.2.2)).getD 0), clock)
  | none => (es ++ [(key, val, clock)], clock + 1)
def aMapSet (k : MK) (m : Mem) : List AV → Option (AV × Mem)
 | [.map b, key, val] => if keyFits k key = true then (mapOf m b).bind fun p => (aPutMap k key val p.1 p.2).map fun q => (.tup [], m.set b (.map q.1 q.2)) else none
 | _ => none
def delMap (r : Option (Nat × AV)) (es : List (AV × AV × Nat)) : List (AV × AV × Nat) :=
 match r with
 | some (i, _) => es.eraseIdx i
 | none => es
def aMapDel (k : MK) (m : Mem) : List AV → Option (AV × Mem)
 | [.map b, key] => if keyFits k key = true then (mapOf m b).bind fun p => (aFind k key p.1 0).map fun r => (.tup [], m.set b (.map (delMap r p.1) p.2)) else none
 | _ => none
def aMapClr (m : Mem) : List AV → Option (AV × Mem)
 | [.map b] => (mapOf m b).map fun p => (.tup [], m.set b (.map [] p.2))
 | _ => none
def w2 (f : AV → AV → Mem → Option (AV × Mem)) (m : Mem) : List AV → Option (AV × Mem)
 | [a, b] => f a b m
 | _ => none
def aW : AK → List AV → Mem → Option (AV × Mem)
 | .mapSet k => fun vs m => aMapSet k m vs
 | .mapDel k => fun vs m => aMapDel k m vs
 | .mapClr => fun vs m => aMapClr m vs
 | .store n => fun vs m => w2 (aStore n) m vs
 | .append size bytes => fun vs m => w2 (aAppend size bytes) m vs
 | .appendZ zero bytes => fun vs m => w2 (aAppendZ zero bytes) m vs
 | .copy size => fun vs m => w2 (aCopy size) m vs
 | _ => fun _ _ => none
def ofCell : Value → Option AV
 | .bool b => some (.bool b)
 | .int k n => some (.int k n)
 | .string s => some (.str s)
 | .pointer none => some .nilp
 | .slice none 0 0 => some .nils
 | .map none => some .mapn
 | .nilFunc => some .nilf
 | .nilIface => some .nili
 | _ => none
def ofCells : List Value → Option (List AV)
 | [] => some []
 | v :: r => (ofCell v).bind fun a => (ofCells r).map (a :: ·)
def ofConst : Value → Option AV
 | .agg cs => (ofCells cs.toList).map .agg
 | v => ofCell v
def ckX : Operand → Option AX
 | .tmp n => some (.t n)
 | .const v => (ofConst v).map .c
 | .func f => some (.c (.fn (.func f) [] []))
 | .global g => (gl.idxOf? g).map fun i => .c (.ptr i 0)
def ckXs : List Operand → Option (List AX)
 | [] => some []
 | x :: r => (ckX x).bind fun a => (ckXs r).map (a :: ·)
section
variable (P : Program)
def aggD (t : TypeId) : Option Bool :=
 match P.underlying t with
 | some (.struct _) => some true
 | some (.array _ _) => some true
 | some _ => some false
 | none => none
def sizeD (t : TypeId) : Option Nat := (P.info? t).map (·.size)
def bytesD (t : TypeId) : Option Nat := (P.info? t).map (·.bytes)
def zeroD (t : TypeId) : Option (List AV) := (P.info? t).bind fun i => i.zero.bind fun z => ofCells z.cells.toList
def plainFs (F : TypeId → Option (List CK)) : Nat → List Field → Option (List CK)
 | _, [] => some []
 | off, f :: r => (F f.type).bind fun ks => if f.offset = off ∧ f.name ≠ "_" ∧ sizeD P f.type = some ks.length then (plainFs F (off + ks.length) r).map (ks ++ ·) else none
def plainD : Nat → TypeId → Option (List CK)
 | 0, _ => none
 | d + 1, t =>
  match P.underlying t with
  | some .bool => some [.b]
  | some (.int _) => some [.i]
  | some .string => some [.s]
  | some (.array n e) => (plainD d e).bind fun ks => if sizeD P e = some ks.length ∧ 0 < ks.length then some (List.replicate n ks).flatten else none
  | some (.struct fs) => if P.stoodInHeld t then none else plainFs P (plainD d) 0 fs.toList
  | _ => none
def eqOk (t : TypeId) : Option EK :=
 match P.underlying t with
 | some .bool => some .bool
 | some (.int _) => some .int
 | some .string => some .str
 | some (.pointer _) => some .ptr
 | some (.slice _) => some .slice
 | some (.func ..) => some .fn
 | _ => none
def ckEq (neg : Bool) (t : TypeId) (xs : List Operand) : Option (AK × List Operand) :=
 match aggD P t with
 | some true => if P.eqGuardType P.depth t then none else (plainD P 8 t).map fun ks => (.eqAgg neg ks, xs)
 | _ => (eqOk P t).map fun e => (.eq neg e, xs)
def methodD (t : TypeId) (name : String) : Option FuncId :=
 (P.info? t).bind fun i => (i.methods.find? (·.name == name)).bind fun m => if m.path.isEmpty then (m.func.bind fun p => match p.2, P.underlying t with
  | true, some (.pointer _) => some p.1
  | false, some (.pointer _) => none
  | false, some _ => some p.1
  | _, _ => none) else none
def optL (x : Option Operand) : List Operand := x.toList
def isU8 : Option TypeDesc → Bool
 | some (.int .u8) => true
 | _ => false
omit P in
theorem isU8_eq {x : Option TypeDesc} (h : isU8 x = true) : x = some (.int .u8) := by
 unfold isU8 at h
 split at h
 ·rfl
 ·cases h
def oneD (t : TypeId) : Bool :=
 match P.underlying t with
 | some .bool => true
 | some (.int _) => true
 | some .string => true
 | _ => false
def mkeyD (t : TypeId) : Option MK :=
 match P.underlying t with
 | some .bool => some (.one .b)
 | some (.int _) => some (.one .i)
 | some .string => some (.one .s)
 | some (.struct fs) => if fs.toList.all (fun f => oneD P f.type && (aggD P f.type == some false)) = true ∧ sizeD P t = some fs.size ∧ fs.toList.map (·.offset) = List.range fs.size then (plainD P 8 t).bind fun ks => if ks.length = fs.size then some (.agg ks) else none else none
 | _ => none
def ckOp : Op → Option (AK × List Operand)
 | .panic x => some (.no, [x])
 | .makeMap t r =>
  match P.underlying t, r with
  | some (.map _ _), none => some (.mkMap, [])
  | _, _ => none
 | .lookup t x i ok =>
  match P.underlying t with
  | some (.map kt et) => (mkeyD P kt).bind fun k => (P.info? et).bind fun inf => inf.zero.bind fun z => (ofConst z).map fun zv => (.lookup k zv ok, [x, i])
  | _ => none
 | .mapUpdate t x i v =>
  match P.underlying t with
  | some (.map kt _) => (mkeyD P kt).map fun k => (.mapSet k, [x, i, v])
  | _ => none
 | .move x => some (.mv, [x])
 | .assign x => some (.mv, [x])
 | .pick c a b => some (.pick, [c, a, b])
 | .nilCheck x => if okM.all (fun p => (methodD P p.1 p.2).isSome) = true then some (.nilCheck, [x]) else none
 | .binOp op t x y _ =>
  match op with
  | .shl => some (.shift .shl, [x, y])
  | .shr => some (.shift .shr, [x, y])
  | .lss => some (.cmp .lss, [x, y])
  | .leq => some (.cmp .leq, [x, y])
  | .gtr => some (.cmp .gtr, [x, y])
  | .geq => some (.cmp .geq, [x, y])
  | .eql => ckEq P false t [x, y]
  | .neq => ckEq P true t [x, y]
  | op => some (.arith op, [x, y])
 | .unOp .not _ x => some (.not, [x])
 | .unOp .neg _ x => some (.neg, [x])
 | .unOp .xor _ x => some (.bnot, [x])
 | .convert src dst x =>
  match P.underlying src, P.underlying dst with
  | some (.int _), some (.int k) => some (.conv k, [x])
  | some .string, some (.slice e) => if isU8 (P.underlying e) = true then some (.s2b, [x]) else none
  | some (.slice e), some .string => if isU8 (P.underlying e) = true then some (.b2s, [x]) else none
  | some (.slice _), some (.slice e) => if src = dst ∧ isU8 (P.underlying e) = true then some (.mark, [x]) else none
  | _, _ => none
 | .sliceToArrayPointer arr x =>
  match P.underlying arr with
  | some (.array n _) => some (.arrPtr n, [x])
  | _ => none
 | .makeFunc (.func f) first captured => some (.mkFn (.func f) first.size, first.toList ++ captured.toList)
 | .makeFunc (.method n) first captured => some (.mkFn (.method n) first.size, first.toList ++ captured.toList)
 | .slice t x lo hi mx =>
  match P.underlying t with
  | some (.slice e) => (sizeD P e).bind fun s => if 0 < s then some (.slice s lo.isSome hi.isSome mx.isSome, x :: (optL lo ++ optL hi ++ optL mx)) else none
  | some (.array n e) => (sizeD P e).bind fun s => if 0 < s then some (.sliceArr n s lo.isSome hi.isSome mx.isSome, x :: (optL lo ++ optL hi ++ optL mx)) else none
  | _ => none
 | .fieldAddr t x f =>
  match P.underlying t with
  | some (.struct fs) => (fs[f]?).bind fun g => match sizeD P g.type with
   | some (_ + 1) => some (.fieldAddr g.offset, [x])
   | _ => none
  | _ => none
 | .field t x f =>
  match P.underlying t with
  | some (.struct fs) => (fs[f]?).bind fun g => (sizeD P g.type).bind fun s => (aggD P g.type).map fun a => (.part g.offset s a, [x])
  | _ => none
 | .indexAddr t x i =>
  match P.underlying t with
  | some (.slice e) => (sizeD P e).map fun s => (.idxAddr s, [x, i])
  | some (.array n e) => (sizeD P e).map fun s => (.idxAddrArr n s, [x, i])
  | _ => none
 | .index t x i =>
  match P.underlying t with
  | some (.array n e) => (sizeD P e).bind fun s => (aggD P e).map fun a => (.idxArr n s a, [x, i])
  | some .string => some (.idxStr, [x, i])
  | _ => none
 | .extract x i => some (.extract i, [x])
 | .build t parts =>
  (zeroD P t).bind fun z =>
  match P.underlying t with
  | some (.struct fs) =>
   ((parts.toList.map (·.1)).mapM fun i => (fs[i]?).bind fun (g : Field) => (sizeD P g.type).map fun s => (g.offset, s)).bind fun ps =>
    if fs.toList.all (fun f => (sizeD P f.type).isSome) then some (.build z ps, parts.toList.map (·.2)) else none
  | some (.array _ e) => (sizeD P e).map fun s => (.build z ((parts.toList.map (·.1)).map fun i => (i * s, s)), parts.toList.map (·.2))
  | _ => none
 | .makeInterface t x =>
  match P.underlying t with
  | some (.interface _) => none
  | some _ => some (.iface t, [x])
  | none => none
 | .load t a => (sizeD P t).bind fun s => (aggD P t).bind fun g => if g || s == 1 then some (.load g s, [a]) else none
 | .alloc t => (zeroD P t).map fun z => (.alloc z, [])
 | .box _ x => some (.box, [x])
 | .makeSlice t l c =>
  match P.underlying t with
  | some (.slice e) => (zeroD P e).bind fun z => (bytesD P e).bind fun b => if sizeD P e = some z.length ∧ 0 < z.length then some (.mkSlice z b, [l, c]) else none
  | _ => none
 | .buildSlice t n parts =>
  match P.underlying t with
  | some (.slice e) => (zeroD P e).bind fun z =>
   if sizeD P e = some z.length ∧ 0 < z.length ∧ n * z.length ≤ 16777216 then some (.mkSl n (rep n z) (parts.toList.map fun p => (p.1 * z.length, z.length)), parts.toList.map (·.2)) else none
  | _ => none
 | .store t a v => (sizeD P t).map fun s => (.store s, [a, v])
 | .call c =>
  match c.callee with
  | .builtin .len =>
   match (c.argTypes[0]?).bind P.underlying, c.args.toList with
   | some (.slice _), [x] => some (.len, [x])
   | some .string, [x] => some (.lenStr, [x])
   | some (.array n _), [x] => some (.lenArr n, [x])
   | some (.map _ _), [x] => some (.lenMap, [x])
   | _, _ => none
  | .builtin .cap =>
   match (c.argTypes[0]?).bind P.underlying, c.args.toList with
   | some (.slice _), [x] => some (.cap, [x])
   | _, _ => none
  | .builtin .min => match c.args.toList with
   | [x, y] => some (.min, [x, y])
   | [x, y, z] => some (.min, [x, y, z])
   | _ => none
  | .builtin .max => match c.args.toList with
   | [x, y] => some (.max, [x, y])
   | _ => none
  | .builtin .append =>
   match c.argTypes.toList, c.args.toList with
   | [st, xt], [s, x] =>
    match P.underlying st, P.underlying xt with
    | some (.slice e), some (.slice _) => (zeroD P e).bind fun z => (bytesD P e).bind fun b => if sizeD P e = some z.length ∧ 0 < z.length then some (.append z.length b, [s, x]) else none
    | some (.slice e), some (.int _) => (zeroD P e).bind fun z => (bytesD P e).bind fun b => if sizeD P e = some z.length ∧ 0 < z.length then some (.appendZ z b, [s, x]) else none
    | _, _ => none
   | _, _ => none
  | .builtin .copy =>
   match c.argTypes.toList, c.args.toList with
   | [st, _], [s, x] =>
    match P.underlying st with
    | some (.slice e) => (sizeD P e).bind fun z => if 0 < z then some (.copy z, [s, x]) else none
    | _ => none
   | _, _ => none
  | .builtin .delete =>
   match c.argTypes.toList, c.args.toList with
   | [mt, _], [x, i] =>
    match P.underlying mt with
    | some (.map kt _) => (mkeyD P kt).map fun k => (.mapDel k, [x, i])
    | _ => none
   | _, _ => none
  | .builtin .clear =>
   match c.argTypes.toList, c.args.toList with
   | [mt], [x] =>
    match P.underlying mt with
    | some (.map _ _) => some (.mapClr, [x])
    | _ => none
   | _, _ => none
  | .value (.func f) => some (.call f, c.args.toList)
  | .value x => some (.callv, x :: c.args.toList)
  | .invoke r name => some (.invoke name, r :: c.args.toList)
  | _ => none
 | _ => none
end
end Go.Adm
end
section
namespace Go.Adm
def CK.okV : CK → Value → Value → Option Bool
 | .b, .bool x, .bool y => some (x == y)
 | .i, .int k x, .int k' y => if k = k' then some (x == y) else none
 | .s, .string x, .string y => some (x == y)
 | _, _, _ => none
def eqV : List CK → List Value → List Value → Option Bool
 | [], [], [] => some true
 | c :: ks, a :: as, b :: bs => (c.okV a b).bind fun x => (eqV ks as bs).map fun y => x && y
 | _, _, _ => none
theorem eqV_append : ∀ (k1 k2 : List CK) (xs ys : List Value) (r : Bool), eqV (k1 ++ k2) xs ys = some r →
  ∃ r1 r2, eqV k1 (xs.take k1.length) (ys.take k1.length) = some r1 ∧ eqV k2 (xs.drop k1.length) (ys.drop k1.length) = some r2 ∧ r = (r1 && r2) := by
 intro k1
 induction k1 with
 | nil => intro k2 xs ys r h; exact ⟨true, r, by simp [eqV], by simpa using h, by simp⟩
 | cons c ks ih =>
  intro k2 xs ys r h
  cases xs with
  | nil => simp [eqV] at h
  | cons x xs =>
   cases ys with
   | nil => simp [eqV] at h
   | cons y ys =>
    simp only [List.cons_append, eqV] at h
    cases hc : c.okV x y with
    | none => simp [hc] at h
    | some u =>
     simp only [hc, Option.bind_some] at h
     cases he : eqV (ks ++ k2) xs ys with
     | none => simp [he] at h
     | some v =>
      simp only [he, Option.map_some, Option.some.injEq] at h
      obtain ⟨r1, r2, h1, h2, h3⟩ := ih k2 xs ys v he
      exact ⟨u && r1, r2, by simp [eqV, hc, h1], by simpa using h2, by rw [← h, h3, Bool.and_assoc]⟩
theorem eqV_length : ∀ (ks : List CK) (xs ys : List Value) (r : Bool), eqV ks xs ys = some r → xs.length = ks.length ∧ ys.length = ks.length := by
 intro ks
 induction ks with
 | nil => intro xs ys r h; cases xs <;> cases ys <;> simp_all [eqV]
 | cons c ks ih =>
  intro xs ys r h
  cases xs with
  | nil => simp [eqV] at h
  | cons x xs =>
   cases ys with
   | nil => simp [eqV] at h
   | cons y ys =>
    simp only [eqV] at h
    cases hc : c.okV x y with
    | none => simp [hc] at h
    | some u =>
     cases he : eqV ks xs ys with
     | none => simp [hc, he] at h
     | some v => have := ih xs ys v he; simp; omega
def valT (P : Program) (t : TypeId) (xs : List Value) : Value :=
 match aggD P t with
 | some true => .agg xs.toArray
 | _ => xs.headD undef
section
variable {P : Program}
theorem run_sizeOf {t : TypeId} {n : Nat} (h : sizeD P t = some n) (w : World) : (sizeOf t).run P w = .ok n w := by
 unfold sizeD at h
 cases hi : P.info? t with
 | none => simp [hi] at h
 | some i =>
  simp only [hi, Option.map_some, Option.some.injEq] at h
  simp [sizeOf, typeInfo, hi, h]
theorem run_isAgg {t : TypeId} {b : Bool} (h : aggD P t = some b) (w : World) : (isAgg t).run P w = .ok b w := by
 unfold aggD at h
 unfold isAgg
 cases hu : P.underlying t with
 | none => simp [hu] at h
 | some d =>
  simp only [Sem.run_bind, run_underlying hu, Result.andThen_ok]
  cases d <;> simp_all
theorem run_part {t : TypeId} {n : Nat} {g : Bool} (hs : sizeD P t = some n) (hg : aggD P t = some g) (h1 : g = true ∨ n = 1) (cs : Array Value) (off : Nat)
  (ho : off + n ≤ cs.size) (w : World) : (part t cs off).run P w = .ok (valT P t ((cs.toList.drop off).take n)) w := by
 unfold part valT
 simp only [Sem.run_bind, run_isAgg hg, Result.andThen_ok, hg]
 cases g with
 | true =>
  simp only [if_true, Sem.run_bind, run_sizeOf hs, Result.andThen_ok, Sem.run_pure]
  congr 2
  apply Array.ext'
  simp [List.take_drop]
 | false =>
  obtain rfl : n = 1 := by simpa using h1
  have hlt : off < cs.size := by omega
  have e : cs.toList.drop off = cs[off] :: cs.toList.drop (off + 1) := by
   rw [List.drop_eq_getElem_cons (by simpa using hlt)]; simp
  simp [hlt, e]
theorem plainD_agg {d : Nat} {t : TypeId} {ks : List CK} (h : plainD P d t = some ks) : ∃ g, aggD P t = some g ∧ (g = true ∨ ks.length = 1) := by
 cases d with
 | zero => simp [plainD] at h
 | succ d =>
  unfold plainD at h
  unfold aggD
  cases hu : P.underlying t with
  | none => simp [hu] at h
  | some x =>
   cases x <;> simp [hu] at h ⊢
   all_goals (subst h; rfl)
theorem run_eqArr {E : Value → Value → Sem Bool} {e : TypeId} {ks : List CK} (hs : sizeD P e = some ks.length) {g : Bool} (hg : aggD P e = some g)
  (h1 : g = true ∨ ks.length = 1) (h0 : 0 < ks.length)
  (ih : ∀ xs ys r w, eqV ks xs ys = some r → (E (valT P e xs) (valT P e ys)).run P w = .ok r w) (xs ys : Array Value) (w : World) :
  ∀ (m s : Nat) (r : Bool), eqV (List.replicate m ks).flatten (xs.toList.drop (s * ks.length)) (ys.toList.drop (s * ks.length)) = some r →
  ((forIn (List.range' s m 1) ((none, ()) : Option Bool × Unit) fun i _ => do
   let a ← part e xs (i * ks.length)
   let b ← part e ys (i * ks.length)
   let c ← E a b
   if (!c) = true then pure (ForInStep.done (some false, ())) else pure (ForInStep.yield (none, ()))).run P w)
   = .ok (if r then none else some false, ()) w := by
 intro m
 induction m with
 | zero => intro s r h; cases hx : xs.toList.drop (s * ks.length) <;> cases hy : ys.toList.drop (s * ks.length) <;> simp_all [eqV]
 | succ m ihm =>
  intro s r h
  rw [List.replicate_succ, List.flatten_cons] at h
  obtain ⟨r1, r2, g1, g2, g3⟩ := eqV_append _ _ _ _ _ h
  have hl := eqV_length _ _ _ _ g1
  simp only [List.length_take, List.length_drop, Array.length_toList] at hl
  rw [List.drop_drop, List.drop_drop] at g2
  rw [List.range'_succ, List.forIn_cons]
  have hx : s * ks.length + ks.length ≤ xs.size := by omega
  have hy : s * ks.length + ks.length ≤ ys.size := by omega
  simp only [Sem.run_bind, run_part hs hg h1 xs _ hx, run_part hs hg h1 ys _ hy, Result.andThen_ok, ih _ _ _ _ g1]
  cases r1 with
  | false => simp [g3]
  | true =>
   have g2' : eqV (List.replicate m ks).flatten (xs.toList.drop ((s + 1) * ks.length)) (ys.toList.drop ((s + 1) * ks.length)) = some r2 := by
    rw [show (s + 1) * ks.length = s * ks.length + ks.length from by rw [Nat.add_mul, Nat.one_mul]]; exact g2
   have := ihm (s + 1) r2 g2'
   simp only [Bool.not_true, Bool.false_eq_true, if_false, Sem.run_pure, Result.andThen_ok, g3, Bool.true_and]
   exact this
theorem run_eqFs {d : Nat} {F : TypeId → Option (List CK)} (hF : ∀ t ks, F t = some ks → (∃ g, aggD P t = some g ∧ (g = true ∨ ks.length = 1)) ∧
  ∀ xs ys r w, eqV ks xs ys = some r → (Op.equalIn d t (valT P t xs) (valT P t ys)).run P w = .ok r w) (xs ys : Array Value) (w : World) :
  ∀ (fs : List Field) (off : Nat) (ks : List CK) (r : Bool), plainFs P F off fs = some ks → eqV ks (xs.toList.drop off) (ys.toList.drop off) = some r →
   (Op.eqFields d xs ys fs).run P w = .ok r w := by
 intro fs
 induction fs with
 | nil =>
  intro off ks r h e
  simp only [plainFs, Option.some.injEq] at h
  subst h
  cases hx : xs.toList.drop off <;> cases hy : ys.toList.drop off <;> simp_all [eqV, Op.eqFields]
 | cons f fs ih =>
  intro off ks r h e
  simp only [plainFs] at h
  cases hk : F f.type with
  | none => simp [hk] at h
  | some k1 =>
   simp only [hk, Option.bind_some] at h
   split at h
   ·rename_i hc
    obtain ⟨c1, c2, c3⟩ := hc
    cases hr : plainFs P F (off + k1.length) fs with
    | none => simp [hr] at h
    | some k2 =>
     simp only [hr, Option.map_some, Option.some.injEq] at h
     subst h
     obtain ⟨r1, r2, g1, g2, g3⟩ := eqV_append _ _ _ _ _ e
     have hl := eqV_length _ _ _ _ g1
     simp only [List.length_take, List.length_drop, Array.length_toList] at hl
     rw [List.drop_drop, List.drop_drop] at g2
     obtain ⟨⟨g, hg, h1⟩, hE⟩ := hF _ _ hk
     unfold Op.eqFields
     rw [if_pos c2, c1]
     by_cases hz : k1.length = 0
     ·have hgt : g = true := by
       rcases h1 with h1 | h1
       ·exact h1
       ·omega
      have hp : ∀ zs : Array Value, (part f.type zs off).run P w = .ok (valT P f.type ((zs.toList.drop off).take k1.length)) w := by
       intro zs
       unfold part valT
       simp only [Sem.run_bind, run_isAgg hg, Result.andThen_ok, hg, hgt, if_true, run_sizeOf c3, Sem.run_pure, hz]
       congr 2
       apply Array.ext'
       simp
      simp only [Sem.run_bind, hp, Result.andThen_ok, hE _ _ _ _ g1]
      cases r1 with
      | false => simp [g3]
      | true => simp only [Bool.not_true, Bool.false_eq_true, if_false, ih _ _ _ hr g2, g3, Bool.true_and]
     ·have hx : off + k1.length ≤ xs.size := by omega
      have hy : off + k1.length ≤ ys.size := by omega
      simp only [Sem.run_bind, run_part c3 hg h1 xs _ hx, run_part c3 hg h1 ys _ hy, Result.andThen_ok, hE _ _ _ _ g1]
      cases r1 with
      | false => simp [g3]
      | true => simp only [Bool.not_true, Bool.false_eq_true, if_false, ih _ _ _ hr g2, g3, Bool.true_and]
   ·cases h
theorem run_equalIn_plain : ∀ (d : Nat) (t : TypeId) (ks : List CK), plainD P d t = some ks → ∀ (D : Nat), d ≤ D → ∀ (xs ys : List Value) (r : Bool) (w : World),
  eqV ks xs ys = some r → (Op.equalIn D t (valT P t xs) (valT P t ys)).run P w = .ok r w := by
 intro d
 induction d with
 | zero => intro t ks h; simp [plainD] at h
 | succ d ih =>
  intro t ks h D hD xs ys r w e
  obtain ⟨D, rfl⟩ : ∃ D', D = D' + 1 := ⟨D - 1, by omega⟩
  unfold plainD at h
  unfold valT aggD
  cases hu : P.underlying t with
  | none => simp [hu] at h
  | some x =>
   cases x <;> simp only [hu, Option.some.injEq, reduceCtorEq] at h ⊢
   case bool =>
    subst h
    have hl := eqV_length _ _ _ _ e
    match xs, ys, hl with
    | [x], [y], _ =>
     simp only [eqV, Option.bind_eq_some_iff, Option.map_some, Option.some.injEq] at e
     obtain ⟨u, hu1, rfl⟩ := e
     unfold CK.okV at hu1
     split at hu1 <;> simp_all
     subst hu1
     simp [run_equalIn_bool w D t _ _ hu]
   case int k =>
    subst h
    have hl := eqV_length _ _ _ _ e
    match xs, ys, hl with
    | [x], [y], _ =>
     simp only [eqV, Option.bind_eq_some_iff, Option.map_some, Option.some.injEq] at e
     obtain ⟨u, hu1, rfl⟩ := e
     unfold CK.okV at hu1
     split at hu1 <;> simp_all
     obtain ⟨rfl, rfl⟩ := hu1
     simp [run_equalIn_int w D t _ _ _ _ hu]
   case string =>
    subst h
    have hl := eqV_length _ _ _ _ e
    match xs, ys, hl with
    | [x], [y], _ =>
     simp only [eqV, Option.bind_eq_some_iff, Option.map_some, Option.some.injEq] at e
     obtain ⟨u, hu1, rfl⟩ := e
     unfold CK.okV at hu1
     split at hu1 <;> simp_all
     subst hu1
     simp [run_equalIn_string w D t _ _ hu, beq_toListBytes]
   case array n el =>
    cases hk : plainD P d el with
    | none => simp [hk] at h
    | some k1 =>
     simp only [hk, Option.bind_some] at h
     split at h
     ·rename_i hc
      simp only [Option.some.injEq] at h
      subst h
      obtain ⟨g, hg, h1⟩ := plainD_agg hk
      have := run_eqArr (P := P) (E := fun a b => Op.equalIn D el a b) hc.1 hg h1 hc.2 (fun xs ys r w he => ih el k1 hk D (by omega) xs ys r w he) xs.toArray ys.toArray w n 0 r (by simpa using e)
      simp only [Op.equalIn, Sem.run_bind, run_underlying hu, Result.andThen_ok, run_sizeOf hc.1, Std.Legacy.Range.forIn_eq_forIn_range', Std.Legacy.Range.size]
      simp only [Nat.sub_zero, Nat.add_sub_cancel, Nat.div_one]
      rw [this]
      cases r <;> simp
     ·cases h
   case struct fs =>
    split at h
    ·cases h
    ·rename_i hp
     have hfs : P.fieldsOf t = fs := by simp [Program.fieldsOf, hu]
     rw [run_equalIn_struct w D t _ _ (by rw [hfs]; exact hu) (by simpa using hp), hfs]
     exact run_eqFs (fun t ks hk => ⟨plainD_agg hk, fun xs ys r w he => ih t ks hk D (by omega) xs ys r w he⟩) xs.toArray ys.toArray w fs.toList 0 ks r h (by simpa using e)
end
end Go.Adm
end
section
namespace Go.Adm
inductive VRL (ρ : LMap) : List AV → List Value → Prop where
 | nil : VRL ρ [] []
 | cons {a : AV} {v : Value} {l : List AV} {r : List Value} : VR ρ a v → VRL ρ l r → VRL ρ (a :: l) (v :: r)
theorem VRL.length {ρ : LMap} {l : List AV} {r : List Value} (v : VRL ρ l r) : l.length = r.length := by
 induction v with
 | nil => rfl
 | cons _ _ ih => simp [ih]
theorem VRL.get {ρ : LMap} {l : List AV} {r : List Value} (v : VRL ρ l r) : ∀ (i : Nat) (x : AV) (y : Value), l[i]? = some x → r[i]? = some y → VR ρ x y := by
 induction v with
 | nil => intro i x y h; simp at h
 | cons a _ ih =>
  intro i x y h k
  cases i with
  | zero => simp at h k; subst h; subst k; exact a
  | succ i => exact ih i x y (by simpa using h) (by simpa using k)
theorem VRL.of {ρ : LMap} : ∀ (l : List AV) (r : List Value), l.length = r.length → (∀ (i : Nat) (x : AV) (y : Value), l[i]? = some x → r[i]? = some y → VR ρ x y) → VRL ρ l r := by
 intro l
 induction l with
 | nil => intro r h _; cases r with
  | nil => exact .nil
  | cons _ _ => simp at h
 | cons a l ih => intro r h k; cases r with
  | nil => simp at h
  | cons b r => exact .cons (k 0 a b rfl rfl) (ih r (by simpa using h) fun i x y hx hy => k (i + 1) x y (by simpa using hx) (by simpa using hy))
theorem VRL.take {ρ : LMap} {l : List AV} {r : List Value} (v : VRL ρ l r) : ∀ n, VRL ρ (l.take n) (r.take n) := by
 induction v with
 | nil => intro n; simp; exact .nil
 | cons a _ ih => intro n; cases n with
  | zero => simp; exact .nil
  | succ n => exact .cons a (ih n)
theorem VRL.drop {ρ : LMap} {l : List AV} {r : List Value} (v : VRL ρ l r) : ∀ n, VRL ρ (l.drop n) (r.drop n) := by
 induction v with
 | nil => intro n; simp; exact .nil
 | cons a v ih => intro n; cases n with
  | zero => exact .cons a v
  | succ n => exact ih n
theorem VRL.append {ρ : LMap} {l l2 : List AV} {r r2 : List Value} (v : VRL ρ l r) (v2 : VRL ρ l2 r2) : VRL ρ (l ++ l2) (r ++ r2) := by
 induction v with
 | nil => exact v2
 | cons a _ ih => exact .cons a ih
theorem VR.agg_flat {ρ : LMap} {l : List AV} {x : Value} (h : VR ρ (.agg l) x) : l.all AV.flat = true := by
 cases h with
 | agg _ hf _ => exact hf
theorem VR.agg_inv {ρ : LMap} {l : List AV} {x : Value} (h : VR ρ (.agg l) x) : ∃ cs : Array Value, x = .agg cs ∧ VRL ρ l cs.toList := by
 cases h with
 | agg hs hf ha => rename_i cs; exact ⟨cs, rfl, .of _ _ (by simpa using hs) fun i x y h k => ha i x y h (by simpa using k)⟩
theorem VR.tup_inv {ρ : LMap} {l : List AV} {x : Value} (h : VR ρ (.tup l) x) : ∃ cs : Array Value, x = .tuple cs ∧ VRL ρ l cs.toList := by
 cases h with
 | tup hs ha => rename_i cs; exact ⟨cs, rfl, .of _ _ (by simpa using hs) fun i x y h k => ha i x y h (by simpa using k)⟩
theorem VR.mk_agg {ρ : LMap} {l : List AV} {cs : List Value} (h : VRL ρ l cs) (hf : l.all AV.flat = true) : VR ρ (.agg l) (.agg cs.toArray) :=
 .agg (by simpa using h.length) hf fun i x y a b => h.get i x y a (by simpa using b)
theorem VR.mk_agg' {ρ : LMap} {l : List AV} {cs : Array Value} (h : VRL ρ l cs.toList) (hf : l.all AV.flat = true) : VR ρ (.agg l) (.agg cs) := by
 have := VR.mk_agg h hf
 simpa using this
theorem VR.mk_tup {ρ : LMap} {l : List AV} {cs : List Value} (h : VRL ρ l cs) : VR ρ (.tup l) (.tuple cs.toArray) :=
 .tup (by simpa using h.length) fun i x y a b => h.get i x y a (by simpa using b)
theorem VR.mk_tup' {ρ : LMap} {l : List AV} {cs : Array Value} (h : VRL ρ l cs.toList) : VR ρ (.tup l) (.tuple cs) := by
 have := VR.mk_tup h
 simpa using this
theorem VRL.two {ρ : LMap} {l : List AV} {x y : Value} (h : VRL ρ l [x, y]) : ∃ a b, l = [a, b] ∧ VR ρ a x ∧ VR ρ b y := by
 cases h with
 | cons a h => cases h with
  | cons b h => cases h; exact ⟨_, _, rfl, a, b⟩
theorem VRL.one {ρ : LMap} {l : List AV} {x : Value} (h : VRL ρ l [x]) : ∃ a, l = [a] ∧ VR ρ a x := by
 cases h with
 | cons a h => cases h; exact ⟨_, rfl, a⟩
theorem VRL.three {ρ : LMap} {l : List AV} {x y z : Value} (h : VRL ρ l [x, y, z]) : ∃ a b c, l = [a, b, c] ∧ VR ρ a x ∧ VR ρ b y ∧ VR ρ c z := by
 cases h with
 | cons a h => cases h with
  | cons b h => cases h with
   | cons c h => cases h; exact ⟨_, _, _, rfl, a, b, c⟩
theorem VR.cells {ρ : LMap} {a : AV} {x : Value} (h : VR ρ a x) : VRL ρ (cellsV a) x.cells.toList := by
 have h0 := h
 cases h
 case agg a _ b => exact (VR.agg_inv h0).elim fun cs h => by obtain ⟨e, h⟩ := h; cases e; exact h
 all_goals exact .cons h0 .nil
theorem VR.cells_flat {ρ : LMap} {a : AV} {x : Value} (h : VR ρ a x) (hs : a.solid = true) : (cellsV a).all AV.flat = true := by
 cases a <;> first | rfl | exact h.agg_flat | simp [AV.solid] at hs
theorem all_take {l : List AV} (h : l.all AV.flat = true) (n : Nat) : (l.take n).all AV.flat = true := by
 rw [List.all_eq_true] at *
 exact fun x hx => h x (List.mem_of_mem_take hx)
theorem all_drop {l : List AV} (h : l.all AV.flat = true) (n : Nat) : (l.drop n).all AV.flat = true := by
 rw [List.all_eq_true] at *
 exact fun x hx => h x (List.mem_of_mem_drop hx)
theorem all_splice {l r : List AV} (h : l.all AV.flat = true) (h' : r.all AV.flat = true) (n : Nat) : (splice l n r).all AV.flat = true := by
 simp only [splice, List.all_append, all_take h, h', all_drop h, Bool.and_self]
theorem ofCell_flat {v : Value} {a : AV} (h : ofCell v = some a) : a.flat = true := by
 unfold ofCell at h
 split at h <;> simp at h <;> subst h <;> rfl
theorem ofCells_flat : ∀ {l : List Value} {r : List AV}, ofCells l = some r → r.all AV.flat = true := by
 intro l
 induction l with
 | nil => intro r h; simp [ofCells] at h; subst h; rfl
 | cons v l ih =>
  intro r h
  simp only [ofCells, Option.bind_eq_some_iff, Option.map_eq_some_iff] at h
  obtain ⟨a, ha, b, hb, rfl⟩ := h
  simp only [List.all_cons, ofCell_flat ha, ih hb, Bool.and_self]
theorem ofCell_VR {ρ : LMap} {v : Value} {a : AV} (h : ofCell v = some a) : VR ρ a v := by
 unfold ofCell at h
 split at h <;> simp at h <;> subst h <;> constructor
theorem ofCells_VRL {ρ : LMap} : ∀ {l : List Value} {r : List AV}, ofCells l = some r → VRL ρ r l := by
 intro l
 induction l with
 | nil => intro r h; simp [ofCells] at h; subst h; exact .nil
 | cons v l ih =>
  intro r h
  simp only [ofCells, Option.bind_eq_some_iff, Option.map_eq_some_iff] at h
  obtain ⟨a, ha, b, hb, rfl⟩ := h
  exact .cons (ofCell_VR ha) (ih hb)
theorem ofConst_VR {ρ : LMap} {v : Value} {a : AV} (h : ofConst v = some a) : VR ρ a v := by
 unfold ofConst at h
 split at h
 ·simp only [Option.map_eq_some_iff] at h
  obtain ⟨l, hl, rfl⟩ := h
  exact .mk_agg' (ofCells_VRL hl) (ofCells_flat hl)
 ·exact ofCell_VR h
theorem aggT_part {P : Program} {ρ : LMap} {t : TypeId} {n : Nat} {g : Bool} (hs : sizeD P t = some n) (hg : aggD P t = some g) {l : List AV} {cs : Array Value} (h : VRL ρ l cs.toList) (hf : l.all AV.flat = true)
  {off : Nat} {v : AV} (hv : aPart off n g l = some v) : ∃ v', VR ρ v v' ∧ ∀ w, (part t cs off).run P w = .ok v' w := by
 have hl := h.length
 simp only [Array.length_toList] at hl
 cases g with
 | true =>
  simp only [aPart] at hv
  split at hv
  ·rename_i ho
   cases hv
   refine ⟨.agg (cs.extract off (off + n)), ?_, fun w => ?_⟩
   ·refine .mk_agg' ?_ (all_take (all_drop hf _) _)
    have := (h.drop off).take n
    simpa [List.take_drop] using this
   ·simp [part, run_isAgg hg, run_sizeOf hs]
  ·cases hv
 | false =>
  simp only [aPart] at hv
  have hlt := lt_of_get hv
  refine ⟨cs[off]'(by omega), ?_, fun w => ?_⟩
  ·exact h.get off v _ hv (by simp [show off < cs.size by omega])
  ·simp [part, run_isAgg hg, show off < cs.size by omega]
theorem aEqCells_V {ρ : LMap} : ∀ {ks : List CK} {as bs : List AV} {r : Bool} {xs ys : List Value}, aEqCells ks as bs = some r → VRL ρ as xs → VRL ρ bs ys → eqV ks xs ys = some r := by
 intro ks
 induction ks with
 | nil =>
  intro as bs r xs ys h h1 h2
  cases h1 <;> cases h2 <;> simp_all [aEqCells, eqV]
 | cons c ks ih =>
  intro as bs r xs ys h h1 h2
  cases h1 with
  | nil => simp [aEqCells] at h
  | cons a1 h1 =>
   cases h2 with
   | nil => simp [aEqCells] at h
   | cons a2 h2 =>
    simp only [aEqCells, Option.bind_eq_some_iff, Option.map_eq_some_iff] at h
    obtain ⟨u, hu, v, hv, rfl⟩ := h
    rename_i x _ _ _ y _ _
    have : CK.okV c x y = some u := by
     unfold aEqCk at hu
     split at hu <;> first | (cases a1; cases a2; exact hu) | simp at hu
    simp only [eqV, this, Option.bind_some, ih hv h1 h2, Option.map_some]
theorem run_eq_of_equalIn {P : Program} {t : TypeId} {x y : Value} {r : Bool} {w : World} {xo yo : Operand} (h : ∀ n, (Op.equalIn (n + 1) t x y).run P w = .ok r w)
  (h1 : binOp .eql t x y = (do pure (.bool (← Op.equal t x y)))) (h2 : binOp .neq t x y = (do pure (.bool (!(← Op.equal t x y)))))
  (g1 : (eqGuard .eql t xo yo x y).run P w = .ok () w) (g2 : (eqGuard .neq t xo yo x y).run P w = .ok () w) :
  ((eqGuard .eql t xo yo x y).run P w = .ok () w ∧ (binOp .eql t x y).run P w = .ok (.bool r) w) ∧
  ((eqGuard .neq t xo yo x y).run P w = .ok () w ∧ (binOp .neq t x y).run P w = .ok (.bool !r) w) := by
 have e : (Op.equal t x y).run P w = .ok r w := h 9999
 refine ⟨⟨g1, ?_⟩, g2, ?_⟩
 ·rw [h1]; simp [e]
 ·rw [h2]; simp [e]
theorem run_eq_flat {P : Program} {ρ : LMap} {t : TypeId} {e : EK} (ht : eqOk P t = some e) {a b : AV} {x y : Value} {r : Bool} (h : aEq e a b = some r) (ha : VR ρ a x) (hb : VR ρ b y) (xo yo : Operand) (w : World) :
  ((eqGuard .eql t xo yo x y).run P w = .ok () w ∧ (binOp .eql t x y).run P w = .ok (.bool r) w) ∧
  ((eqGuard .neq t xo yo x y).run P w = .ok () w ∧ (binOp .neq t x y).run P w = .ok (.bool !r) w) := by
 unfold eqOk at ht
 cases hu : P.underlying t with
 | none => simp [hu] at ht
 | some d =>
  unfold aEq at h
  split at h
  case h_1 =>
   cases ha; cases hb; cases h
   cases d <;> simp [hu] at ht
   exact run_eq_of_equalIn (fun n => run_equalIn_bool w n t _ _ hu) rfl rfl (by simp [eqGuard]) (by simp [eqGuard])
  case h_2 =>
   split at h <;> cases h
   rename_i hk; subst hk
   cases ha; cases hb
   simp [eqGuard, binOp, Op.intCmp, bne]
  case h_3 =>
   cases ha; cases hb; cases h
   simp [eqGuard, binOp, Op.stringOp, beq_toListBytes]
  case h_13 => cases h
  all_goals
   cases h
   cases ha <;> cases hb <;> cases d <;> simp [hu] at ht <;>
    exact run_eq_of_equalIn (fun n => by simp [Op.equalIn, run_underlying hu]) rfl rfl (by simp [eqGuard]) (by simp [eqGuard])
def PureTo (P : Program) (ρ : LMap) (s : Sem Next) (v : AV) : Prop := ∃ v', VR ρ v v' ∧ ∀ w, s.run P w = .ok (.value v') w
theorem sliceBound_run {P : Program} {ρ : LMap} {x : AV} {x' : Value} {y n : Nat} (h : bnd x y = some n) (hx : VR ρ x x') {y' : Nat} (hy : y ≤ y') (code : BoundsCode) (w : World) :
  (Instr.sliceBound x' y' code).run P w = .ok n w := by
 unfold bnd at h
 split at h
 ·split at h
  ·rename_i hc
   cases h; cases hx
   simp [Instr.sliceBound, asIntOf, hc.1, show _ ≤ (y' : Int) from Int.le_trans hc.2 (by omega)]
  ·cases h
 ·cases h
theorem bnd_le {x : AV} {y n : Nat} (h : bnd x y = some n) : n ≤ y := by
 unfold bnd at h
 split at h
 ·split at h
  ·cases h; omega
  ·cases h
 ·cases h
theorem sliceBounds_run {P : Program} {ρ : LMap} {lo hi mx : Option Value} {len cap : Nat} {vs : List AV} {l h m : Nat} (hlc : len ≤ cap) {cap' : Nat} (hcap : cap ≤ cap') (hb : bounds lo.isSome hi.isSome mx.isSome len cap vs = some (l, h, m))
  (hv : VRL ρ vs (lo.toList ++ (hi.toList ++ mx.toList))) (w : World) (is : Bool) :
  ((Instr.sliceBounds is len cap' lo hi mx).run P w = .ok (l, h, if mx.isSome then m else cap') w) ∧ l ≤ h ∧ h ≤ m ∧ (mx.isSome = false → m = cap) ∧ m ≤ cap := by
 cases lo with
 | none =>
  cases hi with
  | none =>
   cases mx with
   | none =>
    cases hv
    simp [bounds] at hb
    obtain ⟨rfl, rfl, rfl⟩ := hb
    simp [Instr.sliceBounds, hlc]
   | some c =>
    obtain ⟨a, rfl, ha⟩ := VRL.one hv
    simp [bounds] at hb
  | some b =>
   cases mx with
   | none =>
    obtain ⟨a, rfl, ha⟩ := VRL.one hv
    simp [bounds, Option.map_eq_some_iff] at hb
    obtain ⟨q, h1, rfl, rfl, rfl⟩ := hb
    simp [Instr.sliceBounds, sliceBound_run h1 ha hcap, bnd_le h1]
   | some c =>
    obtain ⟨a, a2, rfl, ha, ha2⟩ := VRL.two hv
    simp [bounds, Option.map_eq_some_iff, Option.bind_eq_some_iff] at hb
    obtain ⟨q, h1, q2, h2, rfl, rfl, rfl⟩ := hb
    simp [Instr.sliceBounds, sliceBound_run h1 ha2 hcap, sliceBound_run h2 ha (Nat.le_refl _), bnd_le h1, bnd_le h2]
 | some b0 =>
  cases hi with
  | none =>
   cases mx with
   | none =>
    obtain ⟨a, rfl, ha⟩ := VRL.one hv
    simp [bounds, Option.map_eq_some_iff] at hb
    obtain ⟨q, h1, rfl, rfl, rfl⟩ := hb
    simp [Instr.sliceBounds, sliceBound_run h1 ha (Nat.le_refl _), bnd_le h1, hlc]
   | some c =>
    obtain ⟨a, a2, rfl, ha, ha2⟩ := VRL.two hv
    simp [bounds] at hb
  | some b =>
   cases mx with
   | none =>
    obtain ⟨a, a2, rfl, ha, ha2⟩ := VRL.two hv
    simp [bounds, Option.map_eq_some_iff, Option.bind_eq_some_iff] at hb
    obtain ⟨x, h1, y, h2, rfl, rfl, rfl⟩ := hb
    simp [Instr.sliceBounds, sliceBound_run h1 ha2 hcap, sliceBound_run h2 ha (Nat.le_refl _), bnd_le h1, bnd_le h2]
   | some c =>
    obtain ⟨a, a2, a3, rfl, ha, ha2, ha3⟩ := VRL.three hv
    simp [bounds, Option.map_eq_some_iff, Option.bind_eq_some_iff] at hb
    obtain ⟨x, h1, y, h2, z, h3, rfl, rfl, rfl⟩ := hb
    simp [Instr.sliceBounds, sliceBound_run h1 ha3 hcap, sliceBound_run h2 ha2 (Nat.le_refl _), sliceBound_run h3 ha (Nat.le_refl _), bnd_le h1, bnd_le h2, bnd_le h3]
theorem VR.sl_inv {ρ : LMap} {b o len cap s : Nat} {x : Value} (h : VR ρ (.sl b o len cap s) x) : ∃ L a cap', x = .slice (some a) len cap' ∧ ρ b = some L ∧ len ≤ cap ∧ cap ≤ cap' ∧
  (s = 0 → cap' = cap) ∧ (0 < cap' → a = L.addr o) ∧ (0 < cap' → 0 < s → L.base + o + cap' * s ≤ L.lim) := by
 cases h with
 | sl h1 h2 h3 => exact ⟨_, _, _, rfl, h1, h2, Nat.le_refl _, fun _ => rfl, h3, fun _ h => absurd h (by omega)⟩
 | so h1 h2 h3 h4 h5 => exact ⟨_, _, _, rfl, h1, h4, h3, fun h => absurd h (by omega), fun h => (h5 h).1, fun h _ => (h5 h).2⟩
theorem VR.mk_sl {ρ : LMap} {b o len cap s cap' : Nat} {L : Loc} {a : Addr} (h1 : ρ b = some L) (h2 : len ≤ cap) (h3 : cap ≤ cap') (h5 : s = 0 → cap' = cap) (h6 : 0 < cap' → a = L.addr o)
  (h7 : 0 < cap' → 0 < s → L.base + o + cap' * s ≤ L.lim) : VR ρ (.sl b o len cap s) (.slice (some a) len cap') := by
 by_cases e : s = 0
 ·subst e
  obtain rfl := h5 rfl
  exact .sl h1 h2 h6
 ·exact .so h1 (by omega) h3 h2 fun h => ⟨h6 h, h7 h (by omega)⟩
theorem addr_add (L : Loc) (o n : Nat) : (L.addr o).add n = L.addr (o + n) := by
 unfold Addr.add Loc.addr
 split
 ·subst_vars; simp
 ·simp [Nat.add_assoc]
theorem foldl_put (off : Nat) : ∀ (new : List Value) (acc : Array Value) (j : Nat), off + j + new.length ≤ acc.size →
  ((new.zipIdx j).foldl (fun cs (y : Value × Nat) => cs.setIfInBounds (off + y.2) y.1) acc).toList = acc.toList.take (off + j) ++ new ++ acc.toList.drop (off + j + new.length) := by
 intro new
 induction new with
 | nil => intro acc j _; simp
 | cons y new ihn =>
  intro acc j hj
  simp only [List.length_cons] at hj
  rw [List.zipIdx_cons, List.foldl_cons, ihn _ (j + 1) (by simp; omega)]
  have t1 : (acc.toList.set (off + j) y).take (off + (j + 1)) = acc.toList.take (off + j) ++ [y] := by
   rw [show off + (j + 1) = off + j + 1 by omega, List.take_succ_eq_append_getElem (by simp; omega)]
   have : (acc.toList.set (off + j) y).take (off + j) = acc.toList.take (off + j) := by
    apply List.ext_getElem?
    intro k
    by_cases hk : k < off + j
    ·rw [List.getElem?_take_of_lt hk, List.getElem?_take_of_lt hk, List.getElem?_set_ne (by omega)]
    ·rw [List.getElem?_eq_none (by simp; omega), List.getElem?_eq_none (by simp; omega)]
   rw [this]
   simp
  have t2 : (acc.toList.set (off + j) y).drop (off + (j + 1) + new.length) = acc.toList.drop (off + j + (new.length + 1)) := by
   rw [List.drop_set_of_lt (by omega)]
   congr 1; omega
  simp only [Array.toList_setIfInBounds, List.length_cons]
  rw [t1, t2]
  simp
theorem aFill_run {ρ : LMap} {place : Nat → Option (Nat × Nat)} : ∀ (ps : List (Nat × Nat)) (cells : List AV) (vs r : List AV) (cells' : Array Value) (idx : List Nat) (xs : List Value),
  aFill cells ps vs = some r → VRL ρ cells cells'.toList → cells.all AV.flat = true → VRL ρ vs xs → idx.map place = ps.map some → ∃ r', Instr.fill place cells' (idx.zip xs) = some r' ∧ VRL ρ r r'.toList ∧ r.all AV.flat = true := by
 intro ps
 induction ps with
 | nil =>
  intro cells vs r cells' idx xs h hc hcf hv hi
  cases hv with
  | nil => simp [aFill] at h; subst h; exact ⟨cells', by simp [Instr.fill], hc, hcf⟩
  | cons a b => simp [aFill] at h
 | cons p ps ih =>
  intro cells vs r cells' idx xs h hc hcf hv hi
  obtain ⟨off, sz⟩ := p
  cases hv with
  | nil => simp [aFill] at h
  | cons a b =>
   rename_i v x vs xs
   cases idx with
   | nil => simp at hi
   | cons i idx =>
    simp only [List.map_cons, List.cons.injEq] at hi
    simp only [aFill] at h
    split at h
    ·rename_i hh
     have hcv := a.cells
     have hl := hcv.length
     have hcl := hc.length
     simp only [Array.length_toList] at hl hcl
     have key := foldl_put off
     have e1 : place i = some (off, sz) := hi.1
     simp only [List.zip_cons_cons, Instr.fill, e1]
     rw [if_neg (by simp; omega)]
     refine ih _ _ _ _ _ _ h ?_ (all_splice hcf (a.cells_flat hh.2.2) _) b hi.2
     rw [← Array.foldl_toList]
     have := key x.cells.toList cells' 0 (by simp; omega)
     simp only [Nat.add_zero] at this
     rw [Array.toList_zipIdx, this]
     unfold splice
     rw [show (cellsV v).length = x.cells.toList.length by simpa using hl]
     exact ((hc.take off).append hcv).append (hc.drop _)
    ·cases h
end Go.Adm
end
section
namespace Go.Adm
section
variable {P : Program} {ρ : LMap} {ev : Operand → Value}
theorem VRL.map2 {x y : Operand} {vs : List AV} (h : VRL ρ vs ([x, y].map ev)) : ∃ a b, vs = [a, b] ∧ VR ρ a (ev x) ∧ VR ρ b (ev y) := VRL.two h
theorem VRL.map1 {x : Operand} {vs : List AV} (h : VRL ρ vs ([x].map ev)) : ∃ a, vs = [a] ∧ VR ρ a (ev x) := VRL.one h
theorem nilAhead_run {t : TypeId} {name : String} {f : FuncId} (h : methodD P t name = some f) (v : Value) (n : Nat) (w : World) : (nilAhead (n + 1) t v name).run P w = .ok (some false) w := by
 unfold methodD at h
 simp only [Option.bind_eq_some_iff] at h
 obtain ⟨i, hi, m, hm, h⟩ := h
 split at h
 ·rename_i hp
  simp only [Option.bind_eq_some_iff] at h
  obtain ⟨⟨f', ptr⟩, hf, h⟩ := h
  have hp' : m.path.toList = [] := by simpa using hp
  have hti : (typeInfo t).run P w = .ok i w := by simp [typeInfo, hi]
  unfold nilAhead
  simp only [Sem.run_bind, hti, Result.andThen_ok, hm, hp', followBlind, Sem.run_pure, hf]
  split at h
  ·rename_i h1 h2
   cases h
   (try simp only at h1)
   subst h1
   simp
  ·cases h
  ·rename_i d h1 hd h2
   cases h
   have hd' : ptr = false := hd
   subst hd'
   cases d <;> first | exact (h1 _ rfl).elim | simp [run_underlying h2]
  ·cases h
 ·cases h
theorem min3_eq (a b c : Int) : (if c < (if b < a then b else a) then c else (if b < a then b else a)) = min (min a b) c := by
 split <;> split <;> omega
theorem sound_arith {op : BinOp} {t yt : TypeId} {x y : Operand} {vs : List AV} {v : AV} {dst : Option Tmp} {ty : TypeId} {pos : String} {af : Array Edge} {g : Option (Nat × Bool)}
  (hop : op = .add ∨ op = .sub ∨ op = .mul ∨ op = .quo ∨ op = .rem ∨ op = .and ∨ op = .or ∨ op = .xor ∨ op = .andNot)
  (ha : pArith op vs = some v) (hv : VRL ρ vs ([x, y].map ev)) : PureTo P ρ (execOp ev ⟨dst, .binOp op t x y yt, ty, pos, af, g⟩) v := by
 obtain ⟨a, b, rfl, h1, h2⟩ := hv.map2
 unfold pArith at ha
 split at ha
 ·rename_i k m k' n he
  simp only [List.cons.injEq, and_true] at he
  obtain ⟨rfl, rfl⟩ := he
  split at ha
  ·rename_i hk; subst hk
   simp only [Option.map_eq_some_iff] at ha
   obtain ⟨r, hr, rfl⟩ := ha
   refine ⟨.int k r, .int k r, fun w => ?_⟩
   cases hx : ev x <;> rw [hx] at h1 <;> cases h1
   cases hy : ev y <;> rw [hy] at h2 <;> cases h2
   rcases hop with rfl | rfl | rfl | rfl | rfl | rfl | rfl | rfl | rfl <;> simp only [aArith] at hr
   case inr.inr.inr.inl => split at hr <;> cases hr; simp_all [execOp, eqGuard, binOp, Op.intDiv]
   case inr.inr.inr.inr.inl => split at hr <;> cases hr; simp_all [execOp, eqGuard, binOp, Op.intDiv]
   all_goals (cases hr; simp [execOp, eqGuard, binOp, Op.intArith, Op.intBits, hx, hy])
  ·cases ha
 ·cases ha
theorem sound_shift {op : BinOp} {t yt : TypeId} {x y : Operand} {vs : List AV} {v : AV} {dst : Option Tmp} {ty : TypeId} {pos : String} {af : Array Edge} {g : Option (Nat × Bool)}
  (hop : op = .shl ∨ op = .shr)
  (ha : pShift op vs = some v) (hv : VRL ρ vs ([x, y].map ev)) : PureTo P ρ (execOp ev ⟨dst, .binOp op t x y yt, ty, pos, af, g⟩) v := by
 obtain ⟨a, b, rfl, h1, h2⟩ := hv.map2
 unfold pShift at ha
 split at ha
 ·rename_i k m k' n he
  simp only [List.cons.injEq, and_true] at he
  obtain ⟨rfl, rfl⟩ := he
  simp only [Option.map_eq_some_iff] at ha
  obtain ⟨r, hr, rfl⟩ := ha
  refine ⟨.int k r, .int k r, fun w => ?_⟩
  cases hx : ev x <;> rw [hx] at h1 <;> cases h1
  cases hy : ev y <;> rw [hy] at h2 <;> cases h2
  rcases hop with rfl | rfl <;> simp only [aShift] at hr <;> split at hr <;> cases hr <;> rename_i hneg <;> simp [execOp, eqGuard, binOp, Op.shift, hx, hy, hneg] <;> rfl
 ·cases ha
theorem sound_cmp {op : BinOp} {t yt : TypeId} {x y : Operand} {vs : List AV} {v : AV} {dst : Option Tmp} {ty : TypeId} {pos : String} {af : Array Edge} {g : Option (Nat × Bool)}
  (hop : op = .lss ∨ op = .leq ∨ op = .gtr ∨ op = .geq)
  (ha : pCmp op vs = some v) (hv : VRL ρ vs ([x, y].map ev)) : PureTo P ρ (execOp ev ⟨dst, .binOp op t x y yt, ty, pos, af, g⟩) v := by
 obtain ⟨a, b, rfl, h1, h2⟩ := hv.map2
 unfold pCmp at ha
 split at ha
 ·rename_i k m k' n he
  simp only [List.cons.injEq, and_true] at he
  obtain ⟨rfl, rfl⟩ := he
  split at ha
  ·rename_i hk; subst hk
   simp only [Option.map_eq_some_iff] at ha
   obtain ⟨r, hr, rfl⟩ := ha
   refine ⟨.bool r, .bool r, fun w => ?_⟩
   cases hx : ev x <;> rw [hx] at h1 <;> cases h1
   cases hy : ev y <;> rw [hy] at h2 <;> cases h2
   rcases hop with rfl | rfl | rfl | rfl <;> simp only [aCmp] at hr <;> cases hr <;> simp [execOp, eqGuard, binOp, Op.intCmp, hx, hy]
  ·cases ha
 ·cases ha
theorem sound_eq {op : BinOp} {neg : Bool} {t yt : TypeId} {x y : Operand} {k : AK} {xs : List Operand} {vs : List AV} {v : AV} {dst : Option Tmp} {ty : TypeId} {pos : String} {af : Array Edge} {g : Option (Nat × Bool)}
  (hop : (op = .eql ∧ neg = false) ∨ (op = .neq ∧ neg = true)) (hc : ckEq P neg t [x, y] = some (k, xs))
  (ha : aP k vs = some v) (hv : VRL ρ vs (xs.map ev)) : PureTo P ρ (execOp ev ⟨dst, .binOp op t x y yt, ty, pos, af, g⟩) v := by
 unfold ckEq at hc
 split at hc
 ·rename_i hagg
  split at hc
  ·cases hc
  ·rename_i hm
   simp only [Option.map_eq_some_iff, Prod.mk.injEq] at hc
   obtain ⟨ks, hks, rfl, rfl⟩ := hc
   obtain ⟨a, b, rfl, h1, h2⟩ := hv.map2
   simp only [aP, pEqAgg] at ha
   split at ha
   ·rename_i la lb he
    simp only [List.cons.injEq, and_true] at he
    obtain ⟨rfl, rfl⟩ := he
    simp only [Option.map_eq_some_iff] at ha
    obtain ⟨r, hr, rfl⟩ := ha
    obtain ⟨cs, hx, hcs⟩ := h1.agg_inv
    obtain ⟨ds, hy, hds⟩ := h2.agg_inv
    have e := aEqCells_V hr hcs hds
    have hrun := fun w => run_equalIn_plain 8 t ks hks 10000 (by omega) cs.toList ds.toList r w e
    simp only [valT, hagg] at hrun
    have hrun' : ∀ w, (Op.equal t (.agg cs) (.agg ds)).run P w = .ok r w := fun w => hrun w
    have hm' : P.eqGuardType P.depth t = false := by simpa using hm
    refine ⟨.bool (if neg then !r else r), .bool _, fun w => ?_⟩
    have hg := fun op w => run_eqGuard_agg (P := P) w op t x y cs ds hm'
    rcases hop with ⟨rfl, rfl⟩ | ⟨rfl, rfl⟩
    ·have : binOp .eql t (.agg cs) (.agg ds) = (do pure (.bool (← Op.equal t (.agg cs) (.agg ds)))) := rfl
     simp [execOp, hx, hy, hg, this, hrun']
    ·have : binOp .neq t (.agg cs) (.agg ds) = (do pure (.bool (!(← Op.equal t (.agg cs) (.agg ds))))) := rfl
     simp [execOp, hx, hy, hg, this, hrun']
   ·cases ha
 ·simp only [Option.map_eq_some_iff, Prod.mk.injEq] at hc
  obtain ⟨e, he, rfl, rfl⟩ := hc
  obtain ⟨a, b, rfl, h1, h2⟩ := hv.map2
  simp only [aP, pEq, Option.map_eq_some_iff] at ha
  obtain ⟨r, hr, rfl⟩ := ha
  refine ⟨.bool (if neg then !r else r), .bool _, fun w => ?_⟩
  have := run_eq_flat he hr h1 h2 x y w
  rcases hop with ⟨rfl, rfl⟩ | ⟨rfl, rfl⟩
  ·simp [execOp, this.1.1, this.1.2]
  ·simp [execOp, this.2.1, this.2.2]
theorem sound_slice {t : TypeId} {x : Operand} {lo hi mx : Option Operand} {k : AK} {xs : List Operand} {vs : List AV} {v : AV} {dst : Option Tmp} {ty : TypeId} {pos : String} {af : Array Edge} {g : Option (Nat × Bool)}
  (hc : ckOp P (.slice t x lo hi mx) = some (k, xs)) (ha : aP k vs = some v) (hv : VRL ρ vs (xs.map ev)) : PureTo P ρ (execOp ev ⟨dst, .slice t x lo hi mx, ty, pos, af, g⟩) v := by
 have hopt : ∀ y : Option Operand, (optL y).map ev = (y.map ev).toList := fun y => by cases y <;> rfl
 have hiso : ∀ y : Option Operand, (y.map ev).isSome = y.isSome := fun y => by cases y <;> rfl
 have hexec : execOp ev ⟨dst, .slice t x lo hi mx, ty, pos, af, g⟩ = (do pure (.value (← Instr.sliceAt t (ev x) (lo.map ev) (hi.map ev) (mx.map ev)))) := rfl
 simp only [ckOp] at hc
 split at hc
 ·rename_i e hu
  simp only [Option.bind_eq_some_iff] at hc
  obtain ⟨s, hs, hc⟩ := hc
  split at hc
  ·rename_i hs0
   cases hc
   cases hv with
   | cons hx hv =>
    rename_i a vs
    rw [List.map_append, List.map_append, hopt, hopt, hopt, List.append_assoc] at hv
    simp only [aP, pSlice] at ha
    split at ha
    ·rename_i b o len cap s' vs' he
     simp only [List.cons.injEq] at he
     obtain ⟨rfl, rfl⟩ := he
     split at ha
     ·rename_i hss
      simp only [Option.map_eq_some_iff] at ha
      obtain ⟨⟨l, h, m⟩, hb, rfl⟩ := ha
      rw [← hiso lo, ← hiso hi, ← hiso mx] at hb
      obtain ⟨L, a, cap', hxe, hρ, hlc, hcc, hex, haddr, hlim⟩ := hx.sl_inv
      have hr := fun w => sliceBounds_run (P := P) hlc hcc hb hv w true
      obtain ⟨_, hlh, hhm, hmx, hmc⟩ := hr default
      generalize hM : (if (mx.map ev).isSome = true then m else cap') = M at hr
      have hM1 : mx.isSome = true → M = m := fun e => by rw [← hM, if_pos (by rw [hiso]; exact e)]
      have hM2 : mx.isSome = false → M = cap' ∧ m = cap := fun e => ⟨by rw [← hM, if_neg (by rw [hiso, e]; simp)], hmx (by rw [hiso]; exact e)⟩
      have hMm : m ≤ M := by
       cases e : mx.isSome with
       | true => rw [hM1 e]; exact Nat.le_refl _
       | false => rw [(hM2 e).1]; omega
      dsimp only
      refine ⟨.slice (some (if M = l then a else a.add (l * s))) (h - l) (M - l), ?_, fun w => ?_⟩
      ·have had : 0 < M - l → (if M = l then a else a.add (l * s)) = L.addr (o + l * s) := by
        intro hp
        have : 0 < cap' := by
         cases e : mx.isSome with
         | true => have := hM1 e; omega
         | false => have := hM2 e; omega
        rw [if_neg (by omega), haddr this, addr_add]
       cases e : mx.isSome with
       | true =>
        obtain rfl := hM1 e
        simp only [if_true]
        exact .mk_sl hρ (by omega) (Nat.le_refl _) (fun _ => rfl) had (fun _ h => absurd h (by omega))
       | false =>
        obtain ⟨rfl, rfl⟩ := hM2 e
        simp only [Bool.false_eq_true, if_false]
        refine .mk_sl hρ (by omega) (by omega) (fun e => by have := hex e; omega) had (fun h1 h2 => ?_)
        have hs' : s' = s := by rcases hss with h | h <;> omega
        subst hs'
        have := hlim (by omega) h2
        have e1 : (M - l) * s' + l * s' = M * s' := by rw [← Nat.add_mul]; congr 1; omega
        omega
      ·rw [hexec]
       simp [Instr.sliceAt, run_underlying hu, Instr.slice, hxe, (hr w).1, run_sizeOf hs]
       split <;> rfl
     ·cases ha
    ·rename_i vs' he
     simp only [List.cons.injEq] at he
     obtain ⟨rfl, rfl⟩ := he
     simp only [Option.map_eq_some_iff] at ha
     obtain ⟨⟨l, h, m⟩, hb, rfl⟩ := ha
     rw [← hiso lo, ← hiso hi, ← hiso mx] at hb
     cases hxe : ev x <;> rw [hxe] at hx <;> cases hx
     have hr := fun w => sliceBounds_run (P := P) (Nat.le_refl 0) (Nat.le_refl 0) hb hv w true
     obtain ⟨_, hlh, hhm, hmx, hmc⟩ := hr default
     refine ⟨.slice none 0 0, .nils, fun w => ?_⟩
     rw [hexec]
     have e1 : l = 0 := by omega
     have e2 : h = 0 := by omega
     have e3 : m = 0 := by omega
     subst e1 e2 e3
     simp [Instr.sliceAt, run_underlying hu, Instr.slice, hxe, (hr w).1, run_sizeOf hs]
    ·cases ha
  ·cases hc
 ·rename_i n e hu
  simp only [Option.bind_eq_some_iff] at hc
  obtain ⟨s, hs, hc⟩ := hc
  split at hc
  ·rename_i hs0
   cases hc
   cases hv with
   | cons hx hv =>
    rename_i a vs
    rw [List.map_append, List.map_append, hopt, hopt, hopt, List.append_assoc] at hv
    simp only [aP, pSliceArr] at ha
    split at ha
    ·rename_i b o vs' he
     simp only [List.cons.injEq] at he
     obtain ⟨rfl, rfl⟩ := he
     simp only [Option.map_eq_some_iff] at ha
     obtain ⟨⟨l, h, m⟩, hb, rfl⟩ := ha
     rw [← hiso lo, ← hiso hi, ← hiso mx] at hb
     cases hxe : ev x <;> rw [hxe] at hx <;> cases hx
     rename_i L hρ
     have hr := fun w => sliceBounds_run (P := P) (Nat.le_refl n) (Nat.le_refl n) hb hv w false
     obtain ⟨_, hlh, hhm, hmx, hmc⟩ := hr default
     dsimp only
     refine ⟨.slice (some (if m = l then L.addr o else (L.addr o).add (l * s))) (h - l) (m - l), ?_, fun w => ?_⟩
     ·refine .sl hρ (by omega) ?_
      ·intro hp
       rw [if_neg (by omega), addr_add]
     ·have hmm : (if (mx.map ev).isSome = true then m else n) = m := by
       split
       ·rfl
       ·rename_i hn; exact (hmx (by simpa using hn)).symm
      have hr' := (hr w).1
      rw [hmm] at hr'
      rw [hexec]
      simp [Instr.sliceAt, run_underlying hu, Instr.sureAddr, hxe, hr', run_sizeOf hs]
    ·cases ha
  ·cases hc
 ·cases hc
theorem fieldPlace_run {f : Field} {n : Nat} (h : sizeD P f.type = some (n + 1)) (a : Addr) (w : World) : (fieldPlace a f).run P w = .ok (a.add f.offset) w := by
 simp [fieldPlace, run_sizeOf h]
theorem zeroD_run {t : TypeId} {z : List AV} (h : zeroD P t = some z) : z.all AV.flat = true ∧ ∃ v : Value, VRL ρ z v.cells.toList ∧ ∀ w, (zeroValue t).run P w = .ok v w := by
 unfold zeroD at h
 simp only [Option.bind_eq_some_iff] at h
 obtain ⟨i, hi, v, hv, hz⟩ := h
 exact ⟨ofCells_flat hz, v, ofCells_VRL hz, fun w => by simp [zeroValue, typeInfo, hi, hv]⟩
theorem mapM_sizes (fs : Array Field) (h : fs.toList.all (fun f => (sizeD P f.type).isSome) = true) (w : World) :
  (fs.mapM (fun (f : Field) => (do pure (f.offset, ← sizeOf f.type) : Sem (Nat × Nat)))).run P w = .ok (fs.map fun f => (f.offset, (sizeD P f.type).getD 0)) w := by
 have e0 : (fun (f : Field) => (do pure (f.offset, ← sizeOf f.type) : Sem (Nat × Nat))) = fun f => Prod.mk f.offset <$> sizeOf f.type := by
  funext f; simp
 rw [Array.mapM_eq_mapM_toList, e0]
 have key : ∀ (l : List Field), l.all (fun f => (sizeD P f.type).isSome) = true →
   (l.mapM (fun (f : Field) => Prod.mk f.offset <$> sizeOf f.type)).run P w = .ok (l.map fun f => (f.offset, (sizeD P f.type).getD 0)) w := by
  intro l
  induction l with
  | nil => intro _; simp
  | cons f l ih =>
   intro hl
   simp only [List.all_cons, Bool.and_eq_true] at hl
   obtain ⟨n, hn⟩ := Option.isSome_iff_exists.1 hl.1
   simp [run_sizeOf hn, ih hl.2, hn]
 simp only [Sem.run_map, key fs.toList h, Result.andThen_ok]
 congr 1
 apply Array.ext'
 simp
theorem sound_build {t : TypeId} {parts : Array (Nat × Operand)} {k : AK} {xs : List Operand} {vs : List AV} {v : AV} {dst : Option Tmp} {ty : TypeId} {pos : String} {af : Array Edge} {g : Option (Nat × Bool)}
  (hc : ckOp P (.build t parts) = some (k, xs)) (ha : aP k vs = some v) (hv : VRL ρ vs (xs.map ev)) : PureTo P ρ (execOp ev ⟨dst, .build t parts, ty, pos, af, g⟩) v := by
 have hexec : execOp ev ⟨dst, .build t parts, ty, pos, af, g⟩ = (do pure (.value (← Instr.build t (parts.map fun (i, x) => (i, ev x))))) := rfl
 have hzip : ∀ l : List (Nat × Operand), l.map (fun (i, x) => (i, ev x)) = (l.map (·.1)).zip ((l.map (·.2)).map ev) := by
  intro l
  induction l with
  | nil => rfl
  | cons p l ih => simp [ih]
 simp only [ckOp, Option.bind_eq_some_iff] at hc
 obtain ⟨z, hz, hc⟩ := hc
 obtain ⟨hzf, zv, hzv, hzr⟩ := zeroD_run (ρ := ρ) hz
 split at hc
 ·rename_i fs hu
  simp only [Option.bind_eq_some_iff] at hc
  obtain ⟨ps, hps, hc⟩ := hc
  split at hc
  ·rename_i hall
   cases hc
   simp only [aP, Option.map_eq_some_iff] at ha
   obtain ⟨r, hr, rfl⟩ := ha
   have hmap : ((parts.toList.map (·.1)).map fun i => (fs.map fun f => (f.offset, (sizeD P f.type).getD 0))[i]?) = ps.map some := by
    clear hv hr
    generalize parts.toList.map (·.1) = idx at hps
    induction idx generalizing ps with
    | nil => simp at hps; subst hps; rfl
    | cons i idx ih =>
     simp only [List.mapM_cons, Option.bind_eq_bind, Option.bind_eq_some_iff, Option.pure_def, Option.some.injEq] at hps
     obtain ⟨p, hp, ps', hps', rfl⟩ := hps
     rw [List.map_cons, List.map_cons, ih _ hps']
     congr 1
     obtain ⟨g, hg, hp⟩ := hp
     simp only [Option.map_eq_some_iff] at hp
     obtain ⟨s, hs, rfl⟩ := hp
     simp [hg, hs]
   obtain ⟨r', h1, h2, h3⟩ := aFill_run (place := fun i => (fs.map fun f => (f.offset, (sizeD P f.type).getD 0))[i]?) ps z vs r zv.cells (parts.toList.map (·.1)) _ hr hzv hzf hv hmap
   refine ⟨.agg r', (.mk_agg' h2 h3), fun w => ?_⟩
   rw [hexec]
   have hm := mapM_sizes (P := P) fs hall w
   simp only [Instr.build, Sem.run_bind, hzr, Result.andThen_ok, run_underlying hu, hm]
   rw [Array.toList_map, hzip, h1]
   simp
  ·cases hc
 ·rename_i n e hu
  simp only [Option.map_eq_some_iff] at hc
  obtain ⟨s, hs, hc⟩ := hc
  cases hc
  simp only [aP, Option.map_eq_some_iff] at ha
  obtain ⟨r, hr, rfl⟩ := ha
  obtain ⟨r', h1, h2, h3⟩ := aFill_run (place := fun i => some (i * s, s)) _ z vs r zv.cells (parts.toList.map (·.1)) _ hr hzv hzf hv (by simp)
  refine ⟨.agg r', (.mk_agg' h2 h3), fun w => ?_⟩
  rw [hexec]
  simp only [Instr.build, Sem.run_bind, hzr, Result.andThen_ok, run_underlying hu, run_sizeOf hs]
  rw [Array.toList_map, hzip, h1]
  simp
 ·cases hc
set_option maxHeartbeats 1000000 in
theorem pure_sound {o : Oper} {k : AK} {xs : List Operand} {vs : List AV} {v : AV} (hc : ckOp P o.op = some (k, xs)) (hk : k.cls = .pure) (ha : aP k vs = some v) (hv : VRL ρ vs (xs.map ev)) :
  PureTo P ρ (execOp ev o) v := by
 obtain ⟨dst, op, ty, pos, af, g⟩ := o
 cases op
 case move x =>
  cases hc
  obtain ⟨a, rfl, h1⟩ := hv.map1
  cases ha
  exact ⟨_, h1, fun w => rfl⟩
 case assign x =>
  cases hc
  obtain ⟨a, rfl, h1⟩ := hv.map1
  cases ha
  exact ⟨_, h1, fun w => rfl⟩
 case pick c a b =>
  cases hc
  obtain ⟨x, y, z, rfl, h1, h2, h3⟩ := VRL.three hv
  simp only [aP, pPick] at ha
  split at ha
  ·rename_i c' a' b' he
   simp only [List.cons.injEq, and_true] at he
   obtain ⟨rfl, rfl, rfl⟩ := he
   cases ha
   cases hx : ev c <;> rw [hx] at h1 <;> cases h1
   cases c'
   ·exact ⟨_, h3, fun w => by simp [execOp, hx, asBool]⟩
   ·exact ⟨_, h2, fun w => by simp [execOp, hx, asBool]⟩
  ·cases ha
 case nilCheck x =>
  simp only [ckOp] at hc
  split at hc
  rotate_left
  ·cases hc
  rename_i hok
  cases hc
  obtain ⟨a, rfl, h1⟩ := hv.map1
  simp only [aP, pNil] at ha
  split at ha
  ·rename_i b o he
   simp only [List.cons.injEq, and_true] at he
   subst he
   cases ha
   cases hx : ev x <;> rw [hx] at h1 <;> cases h1
   rename_i h
   exact ⟨_, .ptr h, fun w => by simp [execOp, hx]⟩
  ·rename_i f a b he
   simp only [List.cons.injEq, and_true] at he
   subst he
   cases ha
   refine ⟨ev x, h1, fun w => ?_⟩
   cases hx : ev x <;> rw [hx] at h1 <;> cases h1
   simp [execOp, hx]
  ·rename_i n t b o he
   simp only [List.cons.injEq, and_true] at he
   subst he
   split at ha
   ·rename_i hm
    cases ha
    refine ⟨ev x, h1, fun w => ?_⟩
    have hm' := List.all_eq_true.mp hok _ (List.contains_iff_mem.mp hm)
    obtain ⟨f, hf⟩ := Option.isSome_iff_exists.mp hm'
    have hd : 0 < Made.depth := by decide
    obtain ⟨k, hk⟩ : ∃ k, P.types.size + Made.depth = k + 1 := ⟨P.types.size + Made.depth - 1, by omega⟩
    cases hx : ev x <;> rw [hx] at h1 <;> cases h1
    rename_i fs cs e1 h4 e2 h5
    have hl : fs.size = 1 := e1.symm
    obtain ⟨y, hy⟩ : ∃ y, fs[0]? = some y := ⟨_, Array.getElem?_eq_getElem (by omega)⟩
    have hv0 := h4 0 _ _ rfl hy
    cases hv0 with
    | iface hv1 => simp [execOp, hx, hy, hk, nilAhead_run hf]
   ·cases ha
  ·cases ha
 case binOp op t x y yt =>
  cases op <;> simp only [ckOp] at hc
  case shl => cases hc; exact sound_shift (.inl rfl) ha hv
  case shr => cases hc; exact sound_shift (.inr rfl) ha hv
  case lss => cases hc; exact sound_cmp (.inl rfl) ha hv
  case leq => cases hc; exact sound_cmp (.inr (.inl rfl)) ha hv
  case gtr => cases hc; exact sound_cmp (.inr (.inr (.inl rfl))) ha hv
  case geq => cases hc; exact sound_cmp (.inr (.inr (.inr rfl))) ha hv
  case eql => exact sound_eq (.inl ⟨rfl, rfl⟩) hc ha hv
  case neq => exact sound_eq (.inr ⟨rfl, rfl⟩) hc ha hv
  all_goals (cases hc; exact sound_arith (by simp) ha hv)
 case unOp op t x =>
  cases op <;> simp only [ckOp] at hc
  case not =>
   cases hc
   obtain ⟨a, rfl, h1⟩ := hv.map1
   simp only [aP, pNot] at ha
   split at ha
   ·rename_i b he
    simp only [List.cons.injEq, and_true] at he
    subst he
    cases ha
    cases hx : ev x <;> rw [hx] at h1 <;> cases h1
    exact ⟨_, .bool _, fun w => by simp [execOp, hx, Op.unary]⟩
   ·cases ha
  case neg =>
   cases hc
   obtain ⟨a, rfl, h1⟩ := hv.map1
   simp only [aP, pNeg] at ha
   split at ha
   ·rename_i k n he
    simp only [List.cons.injEq, and_true] at he
    subst he
    cases ha
    cases hx : ev x <;> rw [hx] at h1 <;> cases h1
    exact ⟨_, .int _ _, fun w => by simp [execOp, hx, Op.unary, Op.intArith]⟩
   ·cases ha
  case xor =>
   cases hc
   obtain ⟨a, rfl, h1⟩ := hv.map1
   simp only [aP, pBnot] at ha
   split at ha
   ·rename_i k n he
    simp only [List.cons.injEq, and_true] at he
    subst he
    simp only [aArith, Option.map_some, Option.some.injEq] at ha
    subst ha
    cases hx : ev x <;> rw [hx] at h1 <;> cases h1
    exact ⟨_, .int _ _, fun w => by simp [execOp, hx, Op.unary, Op.intBits]⟩
   ·cases ha
  all_goals cases hc
 case convert src dst' x =>
  simp only [ckOp] at hc
  split at hc
  ·rename_i k1 k2 h1 h2
   cases hc
   obtain ⟨a, rfl, hx1⟩ := hv.map1
   simp only [aP, pConv] at ha
   split at ha
   ·rename_i k n he
    simp only [List.cons.injEq, and_true] at he
    subst he
    cases ha
    cases hx : ev x <;> rw [hx] at hx1 <;> cases hx1
    exact ⟨_, .int _ _, fun w => by simp [execOp, hx, convert, run_underlying h1, run_underlying h2, Conv.intToInt]⟩
   ·cases ha
  ·split at hc <;> cases hc; cases hk
  ·split at hc <;> cases hc; cases hk
  ·split at hc <;> cases hc; cases hk
  ·cases hc
 case sliceToArrayPointer arr x =>
  simp only [ckOp] at hc
  split at hc
  ·rename_i n e hu
   cases hc
   obtain ⟨a, rfl, hx1⟩ := hv.map1
   simp only [aP, pArrPtr] at ha
   split at ha
   ·rename_i b o len cap s he
    simp only [List.cons.injEq, and_true] at he
    subst he
    split at ha
    ·rename_i hn
     cases ha
     obtain ⟨L, a, cap', hx, hρ, hlc, hcc, _, haddr, _⟩ := hx1.sl_inv
     refine ⟨.pointer (some (L.addr o)), .ptr hρ, fun w => ?_⟩
     rw [haddr (by omega)] at hx
     simp [execOp, hx, Instr.arrayAt, run_underlying hu, show ¬ len < n by omega]
    ·cases ha
   ·cases ha
  ·cases hc
 case makeFunc fn first captured =>
  have hc2 : ∃ f : Fn, fn = f ∧ k = .mkFn f first.size ∧ xs = first.toList ++ captured.toList := by
   cases fn <;> simp only [ckOp, Option.some.injEq, Prod.mk.injEq, reduceCtorEq] at hc <;> exact ⟨_, rfl, hc.1.symm, hc.2.symm⟩
  obtain ⟨f, rfl, rfl, rfl⟩ := hc2
  simp only [aP, Option.some.injEq] at ha
  subst ha
  refine ⟨.func fn (first.map ev) (captured.map ev), ?_, fun w => rfl⟩
  have h1 := hv.take first.size
  have h2 := hv.drop first.size
  have e1 : ∀ (a : Array Operand), (a.map ev).toList = a.toList.map ev := fun a => by simp
  rw [List.map_append] at h1 h2
  rw [List.take_left' (by simp)] at h1
  rw [List.drop_left' (by simp)] at h2
  refine .fn (by simpa using h1.length) (by simpa using h2.length) (fun i x y a b => h1.get i x y a ?_) (fun i x y a b => h2.get i x y a ?_)
  ·rw [← e1]; simpa using b
  ·rw [← e1]; simpa using b
 case slice t x lo hi mx => exact sound_slice hc ha hv
 case fieldAddr t x f =>
  simp only [ckOp] at hc
  split at hc
  ·rename_i fs hu
   simp only [Option.bind_eq_some_iff] at hc
   obtain ⟨fl, hf, hc⟩ := hc
   split at hc
   ·rename_i n hs
    cases hc
    obtain ⟨a, rfl, hx1⟩ := hv.map1
    simp only [aP, pFieldAddr] at ha
    split at ha
    ·rename_i b o he
     simp only [List.cons.injEq, and_true] at he
     subst he
     cases ha
     cases hx : ev x <;> rw [hx] at hx1 <;> cases hx1
     rename_i L hρ
     refine ⟨_, .ptr hρ, fun w => ?_⟩
     simp [execOp, hx, Instr.fieldAt, run_underlying hu, hf, Instr.sureAddr, fieldPlace_run hs, addr_add]
    ·cases ha
   ·cases hc
  ·cases hc
 case field t x f =>
  simp only [ckOp] at hc
  split at hc
  ·rename_i fs hu
   simp only [Option.bind_eq_some_iff, Option.map_eq_some_iff] at hc
   obtain ⟨fl, hf, s, hs, gg, hg, hc⟩ := hc
   cases hc
   obtain ⟨a, rfl, hx1⟩ := hv.map1
   simp only [aP, pPart] at ha
   split at ha
   ·rename_i l he
    simp only [List.cons.injEq, and_true] at he
    subst he
    obtain ⟨cs, hx, hcs⟩ := hx1.agg_inv
    obtain ⟨v', h1, h2⟩ := aggT_part (P := P) hs hg hcs hx1.agg_flat ha
    exact ⟨v', h1, fun w => by simp [execOp, hx, Instr.field, run_underlying hu, hf, asAgg, h2]⟩
   ·cases ha
  ·cases hc
 case indexAddr t x i =>
  simp only [ckOp] at hc
  split at hc
  ·rename_i e hu
   simp only [Option.map_eq_some_iff] at hc
   obtain ⟨s, hs, hc⟩ := hc
   cases hc
   obtain ⟨a, b, rfl, h1, h2⟩ := hv.map2
   simp only [aP, pIdxAddr] at ha
   split at ha
   ·rename_i b o len cap s' k n he
    simp only [List.cons.injEq, and_true] at he
    obtain ⟨rfl, rfl⟩ := he
    split at ha
    ·rename_i hn
     cases ha
     obtain ⟨L, a, cap', hx, hρ, hlc, hcc, _, haddr, _⟩ := h1.sl_inv
     rw [haddr (by omega)] at hx
     cases hi : ev i <;> rw [hi] at h2 <;> cases h2
     refine ⟨_, .ptr hρ, fun w => ?_⟩
     simp [execOp, hx, hi, Instr.indexAt, asIntOf, run_underlying hu, hn, run_sizeOf hs, addr_add]
    ·cases ha
   ·cases ha
  ·rename_i n e hu
   simp only [Option.map_eq_some_iff] at hc
   obtain ⟨s, hs, hc⟩ := hc
   cases hc
   obtain ⟨a, b, rfl, h1, h2⟩ := hv.map2
   simp only [aP, pIdxAddrArr] at ha
   split at ha
   ·rename_i b o k i' he
    simp only [List.cons.injEq, and_true] at he
    obtain ⟨rfl, rfl⟩ := he
    split at ha
    ·rename_i hn
     cases ha
     cases hx : ev x <;> rw [hx] at h1 <;> cases h1
     rename_i L hρ
     cases hi : ev i <;> rw [hi] at h2 <;> cases h2
     refine ⟨_, .ptr hρ, fun w => ?_⟩
     simp [execOp, hx, hi, Instr.indexAt, asIntOf, run_underlying hu, hn, run_sizeOf hs, addr_add, Instr.sureAddr]
    ·cases ha
   ·cases ha
  ·cases hc
 case index t x i =>
  simp only [ckOp] at hc
  split at hc
  ·rename_i n e hu
   simp only [Option.bind_eq_some_iff, Option.map_eq_some_iff] at hc
   obtain ⟨s, hs, gg, hg, hc⟩ := hc
   cases hc
   obtain ⟨a, b, rfl, h1, h2⟩ := hv.map2
   simp only [aP, pIdxArr] at ha
   split at ha
   ·rename_i l k i' he
    simp only [List.cons.injEq, and_true] at he
    obtain ⟨rfl, rfl⟩ := he
    split at ha
    ·rename_i hn
     obtain ⟨cs, hx, hcs⟩ := h1.agg_inv
     cases hi : ev i <;> rw [hi] at h2 <;> cases h2
     obtain ⟨v', h1, h2⟩ := aggT_part (P := P) hs hg hcs h1.agg_flat ha
     exact ⟨v', h1, fun w => by simp [execOp, hx, hi, Instr.index, asIntOf, run_underlying hu, hn, run_sizeOf hs, h2]⟩
    ·cases ha
   ·cases ha
  ·rename_i hu
   cases hc
   obtain ⟨a, b, rfl, h1, h2⟩ := hv.map2
   simp only [aP, pIdxStr] at ha
   split at ha
   ·rename_i s k i' he
    simp only [List.cons.injEq, and_true] at he
    obtain ⟨rfl, rfl⟩ := he
    split at ha
    ·rename_i hn
     simp only [Option.map_eq_some_iff] at ha
     obtain ⟨bb, hb, rfl⟩ := ha
     cases hx : ev x <;> rw [hx] at h1 <;> cases h1
     cases hi : ev i <;> rw [hi] at h2 <;> cases h2
     exact ⟨_, .int _ _, fun w => by simp [execOp, hx, hi, Instr.index, asIntOf, run_underlying hu, hn, hb]⟩
    ·cases ha
   ·cases ha
  ·cases hc
 case extract x i =>
  cases hc
  obtain ⟨a, rfl, hx1⟩ := hv.map1
  simp only [aP, pExtract] at ha
  split at ha
  ·rename_i l he
   simp only [List.cons.injEq, and_true] at he
   subst he
   obtain ⟨cs, hx, hcs⟩ := hx1.tup_inv
   have hlt := lt_of_get ha
   have hl := hcs.length
   simp only [Array.length_toList] at hl
   have hg : cs[i]? = some cs[i] := by simp [show i < cs.size by omega]
   refine ⟨cs[i], hcs.get i v _ ha (by simp), fun w => ?_⟩
   simp [execOp, hx, Instr.extract, hg]
  ·cases ha
 case build t parts => exact sound_build hc ha hv
 case makeInterface t x =>
  simp only [ckOp] at hc
  split at hc
  ·cases hc
  ·rename_i d hd hu
   cases hc
   obtain ⟨a, rfl, hx1⟩ := hv.map1
   cases ha
   refine ⟨_, .iface hx1, fun w => ?_⟩
   have : ∀ ms, d ≠ .interface ms := fun ms e => hd ms e
   simp only [execOp, Sem.run_bind, Instr.makeInterface, run_underlying hu, Result.andThen_ok]
   cases d <;> simp_all
  ·cases hc
 case load t a =>
  simp only [ckOp, Option.bind_eq_some_iff] at hc
  obtain ⟨s, _, gg, _, hc⟩ := hc
  split at hc <;> cases hc
  cases hk
 case alloc t =>
  simp only [ckOp, Option.map_eq_some_iff] at hc
  obtain ⟨s, _, hc⟩ := hc
  cases hc
  cases hk
 case box t a => cases hc; cases hk
 case makeSlice t a b =>
  simp only [ckOp] at hc
  split at hc
  ·simp only [Option.bind_eq_some_iff] at hc
   obtain ⟨s, _, gg, _, hc⟩ := hc
   split at hc <;> cases hc
   cases hk
  ·cases hc
 case buildSlice t a b =>
  simp only [ckOp] at hc
  split at hc
  ·simp only [Option.bind_eq_some_iff] at hc
   obtain ⟨s, _, hc⟩ := hc
   split at hc <;> cases hc
   cases hk
  ·cases hc
 case store t a v' =>
  simp only [ckOp, Option.map_eq_some_iff] at hc
  obtain ⟨s, _, hc⟩ := hc
  cases hc
  cases hk
 case call c =>
  obtain ⟨callee, args, argTypes⟩ := c
  cases callee with
  | invoke r m => simp only [ckOp, Option.some.injEq, Prod.mk.injEq] at hc; obtain ⟨rfl, _⟩ := hc; cases hk
  | value f =>
   cases f <;> simp only [ckOp, Option.some.injEq, Prod.mk.injEq] at hc <;> obtain ⟨rfl, _⟩ := hc <;> cases hk
  | builtin b =>
   cases b <;> simp only [ckOp, reduceCtorEq] at hc
   case len =>
    have hexec : ∀ x, args.toList = [x] → ∀ w, (execOp ev ⟨dst, .call ⟨.builtin .len, args, argTypes⟩, ty, pos, af, g⟩).run P w = ((Builtin.len_ argTypes ty #[ev x]).run P w).andThen fun v w' => .ok (.value v) w' := by
     intro x hx w
     obtain rfl : args = #[x] := by apply Array.ext'; simpa using hx
     simp [execOp, resolve, invoke, builtin]
    split at hc
    ·rename_i e x hu hx
     cases hc
     simp only [Option.bind_eq_some_iff] at hu
     obtain ⟨t, ht, hu⟩ := hu
     obtain ⟨a, rfl, hx1⟩ := hv.map1
     simp only [aP, pLen] at ha
     split at ha
     ·rename_i he
      simp only [List.cons.injEq, and_true] at he
      subst he; cases ha
      obtain ⟨L, a, cap', hxe, _⟩ := hx1.sl_inv
      exact ⟨_, .int _ _, fun w => by rw [hexec _ hx]; simp [Builtin.len_, ht, run_underlying hu, hxe, goInt]⟩
     ·rename_i he
      simp only [List.cons.injEq, and_true] at he
      subst he; cases ha
      cases hxe : ev x <;> rw [hxe] at hx1 <;> cases hx1
      exact ⟨_, .int _ _, fun w => by rw [hexec _ hx]; simp [Builtin.len_, ht, run_underlying hu, hxe, goInt]⟩
     ·cases ha
    ·rename_i x hu hx
     cases hc
     simp only [Option.bind_eq_some_iff] at hu
     obtain ⟨t, ht, hu⟩ := hu
     obtain ⟨a, rfl, hx1⟩ := hv.map1
     simp only [aP, pLenStr] at ha
     split at ha
     ·rename_i he
      simp only [List.cons.injEq, and_true] at he
      subst he; cases ha
      cases hxe : ev x <;> rw [hxe] at hx1 <;> cases hx1
      exact ⟨_, .int _ _, fun w => by rw [hexec _ hx]; simp [Builtin.len_, ht, run_underlying hu, hxe, goInt]⟩
     ·cases ha
    ·rename_i n e x hu hx
     cases hc
     simp only [Option.bind_eq_some_iff] at hu
     obtain ⟨t, ht, hu⟩ := hu
     obtain ⟨a, rfl, hx1⟩ := hv.map1
     cases ha
     exact ⟨_, .int _ _, fun w => by rw [hexec _ hx]; simp [Builtin.len_, ht, run_underlying hu, goInt]⟩
    ·cases hc; cases hk
    ·cases hc
   case cap =>
    split at hc
    ·rename_i e x hu hx
     cases hc
     simp only [Option.bind_eq_some_iff] at hu
     obtain ⟨t, ht, hu⟩ := hu
     obtain ⟨a, rfl, hx1⟩ := hv.map1
     obtain rfl : args = #[x] := by apply Array.ext'; simpa using hx
     simp only [aP, pCap] at ha
     split at ha
     ·rename_i he
      simp only [List.cons.injEq, and_true] at he
      subst he; cases ha
      obtain ⟨L, a, cap', hxe, _, _, _, hex, _⟩ := hx1.sl_inv
      have hcap := hex rfl
      subst hcap
      exact ⟨_, .int _ _, fun w => by simp [execOp, resolve, invoke, builtin, Builtin.cap_, ht, run_underlying hu, hxe, goInt]⟩
     ·rename_i he
      simp only [List.cons.injEq, and_true] at he
      subst he; cases ha
      cases hxe : ev x <;> rw [hxe] at hx1 <;> cases hx1
      exact ⟨_, .int _ _, fun w => by simp [execOp, resolve, invoke, builtin, Builtin.cap_, ht, run_underlying hu, hxe, goInt]⟩
     ·cases ha
    ·cases hc
   case min =>
    split at hc
    ·rename_i x y hx
     cases hc
     obtain rfl : args = #[x, y] := by apply Array.ext'; simpa using hx
     obtain ⟨a, b, rfl, h1, h2⟩ := hv.map2
     simp only [aP, pMin] at ha
     split at ha
     ·rename_i he
      simp only [List.cons.injEq, and_true] at he
      obtain ⟨rfl, rfl⟩ := he
      cases ha
      cases hx : ev x <;> rw [hx] at h1 <;> cases h1
      cases hy : ev y <;> rw [hy] at h2 <;> cases h2
      exact ⟨_, .int _ _, fun w => by simp [execOp, resolve, invoke, builtin, hx, hy, Builtin.min_, Builtin.min2]⟩
     ·rename_i he; simp at he
     ·cases ha
    ·rename_i x y z hx
     cases hc
     obtain rfl : args = #[x, y, z] := by apply Array.ext'; simpa using hx
     obtain ⟨a, b, c, rfl, h1, h2, h3⟩ := VRL.three hv
     simp only [aP, pMin] at ha
     split at ha
     ·rename_i he; simp at he
     ·rename_i he
      simp only [List.cons.injEq, and_true] at he
      obtain ⟨rfl, rfl, rfl⟩ := he
      cases ha
      cases hx : ev x <;> rw [hx] at h1 <;> cases h1
      cases hy : ev y <;> rw [hy] at h2 <;> cases h2
      cases hz : ev z <;> rw [hz] at h3 <;> cases h3
      refine ⟨_, .int _ _, fun w => ?_⟩
      simp [execOp, resolve, invoke, builtin, hx, hy, hz, Builtin.min_, Builtin.min2, min3_eq]
     ·cases ha
    ·cases hc
   case max =>
    split at hc
    ·rename_i x y hx
     cases hc
     obtain rfl : args = #[x, y] := by apply Array.ext'; simpa using hx
     obtain ⟨a, b, rfl, h1, h2⟩ := hv.map2
     simp only [aP, pMax] at ha
     split at ha
     ·rename_i he
      simp only [List.cons.injEq, and_true] at he
      obtain ⟨rfl, rfl⟩ := he
      cases ha
      cases hx : ev x <;> rw [hx] at h1 <;> cases h1
      cases hy : ev y <;> rw [hy] at h2 <;> cases h2
      exact ⟨_, .int _ _, fun w => by simp [execOp, resolve, invoke, builtin, hx, hy, Builtin.max_, Builtin.max2]⟩
     ·cases ha
    ·cases hc
   case append =>
    split at hc
    ·split at hc
     ·simp only [Option.bind_eq_some_iff] at hc
      obtain ⟨z, _, b, _, hc⟩ := hc
      split at hc <;> cases hc
      cases hk
     ·simp only [Option.bind_eq_some_iff] at hc
      obtain ⟨z, _, b, _, hc⟩ := hc
      split at hc <;> cases hc
      cases hk
     ·cases hc
    ·cases hc
   case copy =>
    split at hc
    ·split at hc
     ·simp only [Option.bind_eq_some_iff] at hc
      obtain ⟨z, _, hc⟩ := hc
      split at hc <;> cases hc
      cases hk
     ·cases hc
    ·cases hc
   case delete =>
    split at hc
    ·split at hc
     ·simp only [Option.map_eq_some_iff] at hc
      obtain ⟨k', _, hc⟩ := hc
      cases hc; cases hk
     ·cases hc
    ·cases hc
   case clear =>
    split at hc
    ·split at hc
     ·cases hc; cases hk
     ·cases hc
    ·cases hc
 case panic x => cases hc; cases ha
 case makeMap t r => simp only [ckOp] at hc; split at hc <;> cases hc; cases hk
 case lookup t x i ok =>
  simp only [ckOp] at hc
  split at hc
  ·simp only [Option.bind_eq_some_iff, Option.map_eq_some_iff] at hc
   obtain ⟨_, _, _, _, _, _, _, _, hc⟩ := hc
   cases hc; cases hk
  ·cases hc
 case mapUpdate t x i v =>
  simp only [ckOp] at hc
  split at hc
  ·simp only [Option.map_eq_some_iff] at hc
   obtain ⟨_, _, hc⟩ := hc
   cases hc; cases hk
  ·cases hc
 all_goals simp [ckOp] at hc
end
end Go.Adm
end
section
namespace Go.Adm
def opCls : Op → Cls
 | .load .. => .read
 | .alloc .. => .make
 | .box .. => .make
 | .makeSlice .. => .make
 | .buildSlice .. => .make
 | .makeMap .. => .make
 | .lookup .. => .read
 | .mapUpdate .. => .write
 | .store .. => .write
 | .call c => match c.callee with
  | .builtin .append => .write
  | .builtin .copy => .write
  | .builtin .delete => .write
  | .builtin .clear => .write
  | .value _ => .call
  | .invoke _ _ => .call
  | _ => .pure
 | _ => .pure
theorem ck_cls {P : Program} {op : Op} {k : AK} {xs : List Operand} (h : ckOp P op = some (k, xs)) (hno : k ≠ .s2b ∧ k ≠ .mark ∧ k ≠ .b2s ∧ k ≠ .lenMap) : k.cls = opCls op := by
 cases op
 case call c =>
  obtain ⟨callee, args, at_⟩ := c
  cases callee with
  | invoke r m => simp only [ckOp, Option.some.injEq, Prod.mk.injEq] at h; obtain ⟨rfl, _⟩ := h; rfl
  | value f => cases f <;> simp only [ckOp, Option.some.injEq, Prod.mk.injEq] at h <;> obtain ⟨rfl, _⟩ := h <;> rfl
  | builtin b =>
   cases b <;> simp only [ckOp, reduceCtorEq] at h
   case append =>
    split at h
    ·split at h
     ·simp only [Option.bind_eq_some_iff] at h
      obtain ⟨z, _, b, _, h⟩ := h
      split at h <;> cases h
      rfl
     ·simp only [Option.bind_eq_some_iff] at h
      obtain ⟨z, _, b, _, h⟩ := h
      split at h <;> cases h
      rfl
     ·cases h
    ·cases h
   case copy =>
    split at h
    ·split at h
     ·simp only [Option.bind_eq_some_iff] at h
      obtain ⟨z, _, h⟩ := h
      split at h <;> cases h
      rfl
     ·cases h
    ·cases h
   case delete =>
    split at h
    ·split at h
     ·simp only [Option.map_eq_some_iff] at h
      obtain ⟨k', _, h⟩ := h
      cases h; rfl
     ·cases h
    ·cases h
   case clear =>
    split at h
    ·split at h
     ·cases h; rfl
     ·cases h
    ·cases h
   all_goals (split at h <;> cases h <;> first | rfl | exact absurd rfl hno.2.2.2)
 case load t a =>
  simp only [ckOp, Option.bind_eq_some_iff] at h
  obtain ⟨s, _, gg, _, h⟩ := h
  split at h <;> cases h
  rfl
 case alloc t =>
  simp only [ckOp, Option.map_eq_some_iff] at h
  obtain ⟨s, _, h⟩ := h
  cases h
  rfl
 case box t a => cases h; rfl
 case makeSlice t a b =>
  simp only [ckOp] at h
  split at h
  ·simp only [Option.bind_eq_some_iff] at h
   obtain ⟨s, _, gg, _, h⟩ := h
   split at h <;> cases h
   rfl
  ·cases h
 case buildSlice t a b =>
  simp only [ckOp] at h
  split at h
  ·simp only [Option.bind_eq_some_iff] at h
   obtain ⟨s, _, h⟩ := h
   split at h <;> cases h
   rfl
  ·cases h
 case store t a v' =>
  simp only [ckOp, Option.map_eq_some_iff] at h
  obtain ⟨s, _, h⟩ := h
  cases h
  rfl
 case binOp op t x y yt =>
  cases op <;> simp only [ckOp, ckEq, Option.some.injEq, Prod.mk.injEq] at h
  case eql => split at h <;> (try split at h) <;> simp only [Option.map_eq_some_iff, Prod.mk.injEq, reduceCtorEq] at h <;> obtain ⟨_, _, rfl, _⟩ := h <;> rfl
  case neq => split at h <;> (try split at h) <;> simp only [Option.map_eq_some_iff, Prod.mk.injEq, reduceCtorEq] at h <;> obtain ⟨_, _, rfl, _⟩ := h <;> rfl
  all_goals (obtain ⟨rfl, _⟩ := h; rfl)
 case unOp op t x => cases op <;> cases h <;> rfl
 case convert src dst x =>
  simp only [ckOp] at h
  split at h
  ·cases h; rfl
  ·split at h <;> cases h; exact absurd rfl hno.1
  ·split at h <;> cases h; exact absurd rfl hno.2.2.1
  ·split at h <;> cases h; exact absurd rfl hno.2.1
  ·cases h
 case sliceToArrayPointer arr x =>
  simp only [ckOp] at h
  split at h <;> cases h
  rfl
 case makeFunc fn a b => cases fn <;> cases h <;> rfl
 case slice t x lo hi mx =>
  simp only [ckOp] at h
  split at h <;> simp only [Option.bind_eq_some_iff, reduceCtorEq] at h <;> obtain ⟨s, _, h⟩ := h <;> split at h <;> cases h <;> rfl
 case fieldAddr t x f =>
  simp only [ckOp] at h
  split at h
  ·simp only [Option.bind_eq_some_iff] at h
   obtain ⟨fl, _, h⟩ := h
   split at h <;> cases h
   rfl
  ·cases h
 case field t x f =>
  simp only [ckOp] at h
  split at h
  ·simp only [Option.bind_eq_some_iff, Option.map_eq_some_iff] at h
   obtain ⟨fl, _, s, _, gg, _, h⟩ := h
   cases h
   rfl
  ·cases h
 case indexAddr t x f =>
  simp only [ckOp] at h
  split at h <;> simp only [Option.map_eq_some_iff, reduceCtorEq] at h <;> obtain ⟨s, _, h⟩ := h <;> cases h <;> rfl
 case index t x f =>
  simp only [ckOp] at h
  split at h
  ·simp only [Option.bind_eq_some_iff, Option.map_eq_some_iff] at h
   obtain ⟨s, _, gg, _, h⟩ := h
   cases h
   rfl
  ·cases h; rfl
  ·cases h
 case build t parts =>
  simp only [ckOp, Option.bind_eq_some_iff] at h
  obtain ⟨z, _, h⟩ := h
  split at h
  ·simp only [Option.bind_eq_some_iff] at h
   obtain ⟨z, _, h⟩ := h
   split at h <;> cases h
   rfl
  ·simp only [Option.map_eq_some_iff] at h
   obtain ⟨z, _, h⟩ := h
   cases h
   rfl
  ·cases h
 case makeInterface t x =>
  simp only [ckOp] at h
  split at h <;> cases h
  rfl
 case panic x => cases h; rfl
 case makeMap t r => simp only [ckOp] at h; split at h <;> cases h; rfl
 case lookup t x i ok =>
  simp only [ckOp] at h
  split at h
  ·simp only [Option.bind_eq_some_iff, Option.map_eq_some_iff] at h
   obtain ⟨_, _, _, _, _, _, _, _, h⟩ := h
   cases h; rfl
  ·cases h
 case mapUpdate t x i v =>
  simp only [ckOp] at h
  split at h
  ·simp only [Option.map_eq_some_iff] at h
   obtain ⟨_, _, h⟩ := h
   cases h; rfl
  ·cases h
 case nilCheck x =>
  simp only [ckOp] at h
  split at h <;> cases h
  rfl
 all_goals (cases h; try rfl)
theorem ck_conv {P : Program} {op : Op} {k : AK} {xs : List Operand} (h : ckOp P op = some (k, xs)) (hk : k = .s2b ∨ k = .mark ∨ k = .b2s) : ∃ s d x, op = .convert s d x := by
 cases op
 case convert s d x => exact ⟨_, _, _, rfl⟩
 all_goals exfalso
 all_goals (rcases hk with rfl | rfl | rfl)
 all_goals (simp only [ckOp, ckEq] at h)
 all_goals (repeat' (first | contradiction | (cases h; done) | (simp only [Option.bind_eq_some_iff, Option.map_eq_some_iff, Prod.mk.injEq, Option.some.injEq, reduceCtorEq, false_and, and_false, exists_false, exists_const] at h; done) | (simp [Option.bind_eq_some_iff, Option.map_eq_some_iff] at h; done) | split at h | (simp only [Option.bind_eq_some_iff, Option.map_eq_some_iff] at h; obtain ⟨_, _, h⟩ := h)))
theorem ck_lenMap {P : Program} {op : Op} {xs : List Operand} (h : ckOp P op = some (.lenMap, xs)) : ∃ args at_, op = .call ⟨.builtin .len, args, at_⟩ := by
 cases op
 case call c =>
  obtain ⟨callee, args, at_⟩ := c
  cases callee with
  | invoke r m => simp [ckOp] at h
  | value f => cases f <;> simp [ckOp] at h
  | builtin b =>
   cases b
   case len => exact ⟨_, _, rfl⟩
   all_goals exfalso
   all_goals (simp only [ckOp] at h)
   all_goals (repeat' (first | contradiction | (cases h; done) | (simp only [Option.bind_eq_some_iff, Option.map_eq_some_iff, Prod.mk.injEq, Option.some.injEq, reduceCtorEq, false_and, and_false, exists_false, exists_const] at h; done) | (simp [Option.bind_eq_some_iff, Option.map_eq_some_iff] at h; done) | split at h | (simp only [Option.bind_eq_some_iff, Option.map_eq_some_iff] at h; obtain ⟨_, _, h⟩ := h)))
 all_goals exfalso
 all_goals (simp only [ckOp, ckEq] at h)
 all_goals (repeat' (first | contradiction | (cases h; done) | (simp only [Option.bind_eq_some_iff, Option.map_eq_some_iff, Prod.mk.injEq, Option.some.injEq, reduceCtorEq, false_and, and_false, exists_false, exists_const] at h; done) | (simp [Option.bind_eq_some_iff, Option.map_eq_some_iff] at h; done) | split at h | (simp only [Option.bind_eq_some_iff, Option.map_eq_some_iff] at h; obtain ⟨_, _, h⟩ := h)))
section
variable {P : Program} {ρ : LMap} {ev : Operand → Value} {m : Mem} {w : World}
theorem rowOf_some {b : Nat} {cells : List AV} (h : rowOf m b = some cells) : ∃ r, m[b]? = some (.row cells r) := by
 unfold rowOf at h
 split at h
 ·rename_i c r e; cases h; exact ⟨r, e⟩
 ·cases h
theorem own_some {b : Nat} {cells : List AV} (h : own m b = some cells) : m[b]? = some (.row cells false) := by
 unfold own at h
 split at h
 ·rename_i c e; cases h; exact e
 ·cases h
theorem Sim.flat (hs : Sim m ρ w) {b : Nat} {L : Loc} {cells : List AV} (hb : ρ b = some L) (hr : rowOf m b = some cells) : cells.all AV.flat = true := by
 obtain ⟨r, hr⟩ := rowOf_some hr
 exact (hs.row b L cells r hb hr).flat
theorem Sim.cells (hs : Sim m ρ w) {b o n : Nat} {L : Loc} {cells : List AV} (hb : ρ b = some L) (hr : rowOf m b = some cells) (hn : o + n ≤ cells.length) :
  ∃ cs : List Value, cs.length = n ∧ VRL ρ ((cells.drop o).take n) cs ∧ ∀ (j : Nat) (v : Value), cs[j]? = some v → w.cell? ((L.addr o).add j) = some v := by
 obtain ⟨r, hr⟩ := rowOf_some hr
 obtain ⟨C, e, fz, h1, h2, h3, h4, h5⟩ := (hs.row b L cells r hb hr).ex
 have hlen : ((C.toList.drop (L.base + o)).take n).length = n := by simp; omega
 refine ⟨(C.toList.drop (L.base + o)).take n, hlen, ?_, ?_⟩
 ·refine .of _ _ (by rw [hlen]; simp; omega) fun i x y hx hy => ?_
  have hi : i < n := by
   have := lt_of_get hy
   omega
  rw [List.getElem?_take_of_lt hi, List.getElem?_drop] at hx hy
  obtain ⟨v', g1, g2⟩ := h4 _ _ hx
  rw [Array.getElem?_toList, show L.base + o + i = L.base + (o + i) by omega, g1] at hy
  cases hy
  exact g2
 ·intro j v hv
  have hi : j < n := by
   have := lt_of_get hv
   omega
  rw [List.getElem?_take_of_lt hi, List.getElem?_drop, Array.getElem?_toList] at hv
  rw [addr_add]
  simp only [World.cell?, Loc.addr, h1, Option.isSome_none, Bool.false_eq_true, if_false]
  rw [show L.base + (o + j) = L.base + o + j by omega]
  exact hv
theorem load_sound {o : Oper} {agg : Bool} {n : Nat} {xs : List Operand} {vs : List AV} {v : AV} (hc : ckOp P o.op = some (.load agg n, xs)) (ha : aR (.load agg n) vs m = some v)
  (hv : VRL ρ vs (xs.map ev)) (hs : Sim m ρ w) : ∃ v', VR ρ v v' ∧ (execOp ev o).run P w = .ok (.value v') w := by
 obtain ⟨dst, op, ty, pos, af, g⟩ := o
 cases op
 case load t a =>
  simp only [ckOp, Option.bind_eq_some_iff] at hc
  obtain ⟨s, hsz, gg, hg, hc⟩ := hc
  split at hc
  ·rename_i h1
   simp only [Option.some.injEq, Prod.mk.injEq, AK.load.injEq] at hc
   obtain ⟨⟨rfl, rfl⟩, rfl⟩ := hc
   obtain ⟨x, rfl, hx⟩ := hv.map1
   simp only [aR, rLoad] at ha
   split at ha
   ·rename_i b o he
    simp only [List.cons.injEq, and_true] at he
    subst he
    simp only [Option.bind_eq_some_iff] at ha
    obtain ⟨cells, hr, ha⟩ := ha
    cases hxe : ev a <;> rw [hxe] at hx <;> cases hx
    rename_i L hρ
    cases gg with
    | true =>
     simp only [aPart] at ha
     split at ha
     ·rename_i hle
      cases ha
      obtain ⟨cs, c1, c2, c3⟩ := hs.cells hρ hr hle
      refine ⟨.agg cs.toArray, .mk_agg c2 (all_take (all_drop (hs.flat hρ hr) _) _), ?_⟩
      have hl := run_loadCells_list (P := P) w (L.addr o) cs c3
      rw [c1] at hl
      simp [execOp, hxe, Instr.loadAt, Instr.sureAddr, loadVar, run_isAgg hg, run_sizeOf hsz, hl]
     ·cases ha
    | false =>
     simp only [aPart] at ha
     obtain ⟨r, hr'⟩ := rowOf_some hr
     obtain ⟨v', h1, h2⟩ := hs.cell hρ hr' ha
     exact ⟨v', h2, by simp [execOp, hxe, Instr.loadAt, Instr.sureAddr, loadVar, run_isAgg hg, h1]⟩
   ·cases ha
  ·cases hc
 case lookup t x i ok => simp only [ckOp] at hc; split at hc <;> simp [Option.bind_eq_some_iff] at hc
 all_goals (have := ck_cls hc ⟨by simp, by simp, by simp, by simp⟩; simp [AK.cls, opCls] at this)
 rename_i c
 obtain ⟨callee, args, at_⟩ := c
 cases callee with
 | builtin b => cases b <;> simp at this
 | value f => simp at this
 | invoke r n => simp at this
theorem mark_exec (hs : Sim m ρ w) {b : Nat} {L : Loc} {a : Addr} (hb : ρ b = some L) (hm : (own m b).isSome = true) (ha : a.block = L.blk) :
  ∃ w', (markStringish a).run P w = .ok () w' ∧ Sim m ρ w' ∧ Step m m ρ ρ w w' := by
 obtain ⟨cells, hm⟩ : ∃ cells, m[b]? = some (.row cells false) := by
  unfold own at hm
  split at hm
  ·exact ⟨_, by assumption⟩
  ·cases hm
 obtain ⟨C, e, fz, h1, h2, h3, h4, h5⟩ := (hs.row b L cells false hb hm).ex
 have hsh : w.shape? a.block = some (e, C.size) := by rw [ha]; unfold World.shape?; rw [h1]
 have hlt : L.blk < w.heap.size := hs.lt b L hb
 refine ⟨w.freeze ⟨a.block, C.size, none⟩ 1, by simp [markStringish, hsh], ?_⟩
 have hne : ∀ B, B ≠ L.blk → (w.freeze ⟨a.block, C.size, none⟩ 1).heap[B]? = w.heap[B]? := by
  intro B hB
  unfold World.freeze
  rw [if_neg (by decide)]
  simp only [Array.getElem?_modify, ha, if_neg (Ne.symm hB)]
 have hsz : (w.freeze ⟨a.block, C.size, none⟩ 1).heap.size = w.heap.size := by
  unfold World.freeze
  rw [if_neg (by decide)]
  simp
 have hrow : RowAt ρ (w.freeze ⟨a.block, C.size, none⟩ 1) L cells false := by
  refine ⟨⟨C, e, (if fz.1 == fz.2 then (C.size, C.size + 1) else (min fz.1 C.size, max fz.2 (C.size + 1))), ?_, h2, h3, h4, fun _ => ?_⟩, (hs.row b L cells false hb hm).flat⟩
  ·unfold World.freeze
   rw [if_neg (by decide)]
   obtain ⟨lo, hi⟩ := fz
   simp only [Array.getElem?_modify, ha, if_true, h1, Option.map_some]
  ·rcases h5 rfl with h | h
   ·rw [if_pos (by simpa using h)]; exact .inr (by simp only; omega)
   ·split
    ·exact .inr (by simp only; omega)
    ·exact .inr (by simp only; omega)
 refine ⟨hs.change hb hm hm (fun _ _ => rfl) hrow hne hsz, ?_⟩
 have hst : w.freeze ⟨a.block, C.size, none⟩ 1 = { w with heap := (w.freeze ⟨a.block, C.size, none⟩ 1).heap } := by
  unfold World.freeze
  rw [if_neg (by decide)]
 refine ⟨.refl m, fun _ _ => rfl, fun x _ g1 g2 _ => by omega, by rw [hst], by rw [hst], by rw [hst], by omega, fun B hB hno => ?_⟩
 exact hne B fun e => hno b L _ hb hm rfl rfl e.symm
theorem bytesA_V {ρ : LMap} : ∀ {l : List AV} {r : List UInt8} {cs : List Value}, bytesA l = some r → VRL ρ l cs → ∃ ns : List Int, cs = ns.map (Value.int .u8) ∧ r = ns.map fun n => UInt8.ofNat n.toNat := by
 intro l
 induction l with
 | nil => intro r cs h hv; cases hv; cases h; exact ⟨[], rfl, rfl⟩
 | cons a l ih =>
  intro r cs h hv
  cases hv with
  | cons ha hv =>
   unfold bytesA at h
   split at h
   ·rename_i he; cases he
   ·rename_i n l' he
    cases he
    simp only [Option.map_eq_some_iff] at h
    obtain ⟨r', hr, rfl⟩ := h
    obtain ⟨ns, rfl, rfl⟩ := ih hr hv
    cases ha
    exact ⟨n :: ns, rfl, rfl⟩
   ·cases h
theorem foldl_pushB (ns : List Int) : ∀ s : ByteArray, ns.foldl (fun r n => r.push (UInt8.ofNat n.toNat)) s = ⟨s.data ++ (ns.map fun n => UInt8.ofNat n.toNat).toArray⟩ := by
 induction ns with
 | nil => intro s; simp
 | cons n ns ih =>
  intro s
  rw [List.foldl_cons, ih]
  show (⟨(s.data.push _) ++ _⟩ : ByteArray) = _
  simp
theorem b2s_sound {o : Oper} {xs : List Operand} {vs : List AV} {v : AV} (hc : ckOp P o.op = some (.b2s, xs)) (ha : aR .b2s vs m = some v)
  (hv : VRL ρ vs (xs.map ev)) (hs : Sim m ρ w) : ∃ v', VR ρ v v' ∧ (execOp ev o).run P w = .ok (.value v') w := by
 obtain ⟨dst, op, ty, pos, af, g⟩ := o
 obtain ⟨src, dst', x, hop⟩ := ck_conv hc (.inr (.inr rfl))
 simp only at hop
 subst hop
 simp only [ckOp] at hc
 split at hc
 ·cases hc
 ·split at hc <;> cases hc
 ·rename_i e h1 h2
  split at hc
  ·rename_i he
   have he := isU8_eq he
   cases hc
   obtain ⟨a, rfl, hx⟩ := hv.map1
   simp only [aR, rB2s] at ha
   split at ha
   ·rename_i hvs
    simp only [List.cons.injEq, and_true] at hvs
    subst hvs
    cases ha
    cases hxe : ev x <;> rw [hxe] at hx <;> cases hx
    refine ⟨.string .empty, .str _, ?_⟩
    have hrun := run_convert_bytes_nil (P := P) (w := w) src e h1 he 0 0 dst' h2
    simp [execOp, hxe, hrun]
   ·rename_i b o len cap s hvs
    simp only [List.cons.injEq, and_true] at hvs
    subst hvs
    simp only [Option.bind_eq_some_iff, Option.map_eq_some_iff] at ha
    obtain ⟨cells, hcells, l, hl, rfl⟩ := ha
    obtain ⟨L, ad, cap', hxe, hρ, hlc, hcc, hex, haddr, hlim⟩ := hx.sl_inv
    obtain ⟨cs, hcs, hld⟩ : ∃ cs, VRL ρ cells cs ∧ (loadCells ad len).run P w = .ok cs.toArray w := by
     simp only [elems] at hcells
     by_cases h0 : len = 0
     ·subst h0
      simp only [if_true, Option.some.injEq] at hcells
      subst hcells
      refine ⟨[], .nil, ?_⟩
      have := run_loadCells_list (P := P) w ad [] (fun j v h => by simp at h)
      simpa using this
     ·simp only [if_neg h0, Nat.le_refl, if_true, Option.bind_eq_some_iff] at hcells
      obtain ⟨row, hr, hcells⟩ := hcells
      split at hcells
      ·rename_i hle
       cases hcells
       simp only [Nat.mul_one] at hle ⊢
       obtain ⟨cs, c1, c2, c3⟩ := hs.cells hρ hr hle
       have haa := haddr (by omega)
       refine ⟨cs, c2, ?_⟩
       have hl := run_loadCells_list (P := P) w (L.addr o) cs c3
       rw [c1, ← haa] at hl
       exact hl
      ·cases hcells
    obtain ⟨ns, rfl, rfl⟩ := bytesA_V hl hcs
    refine ⟨_, .str _, ?_⟩
    have hrun : (convert src dst' (.slice (some ad) len cap')).run P w = .ok (.string ⟨(ns.map fun n => UInt8.ofNat n.toNat).toArray⟩) w := by
     rw [run_convert_bytes_string w src dst' e _ len cap' h1 he h2, run_bytesToString w ad len cap' ns hld, foldl_pushB]
     simp [ByteArray.empty, ByteArray.emptyWithCapacity]
     rfl
    simp [execOp, hxe, hrun]
   ·cases ha
  ·cases hc
 ·split at hc <;> cases hc
 ·cases hc
theorem mapOf_some {b : Nat} {p : List (AV × AV × Nat) × Nat} (h : mapOf m b = some p) : m[b]? = some (.map p.1 p.2) := by
 unfold mapOf at h
 split at h
 ·cases h; assumption
 ·cases h
theorem lenMap_sound {o : Oper} {xs : List Operand} {vs : List AV} {v : AV} (hc : ckOp P o.op = some (.lenMap, xs)) (ha : aR .lenMap vs m = some v)
  (hv : VRL ρ vs (xs.map ev)) (hs : Sim m ρ w) : ∃ v', VR ρ v v' ∧ (execOp ev o).run P w = .ok (.value v') w := by
 obtain ⟨dst, op, ty, pos, af, g⟩ := o
 obtain ⟨args, argTypes, hop⟩ := ck_lenMap hc
 simp only at hop
 subst hop
 have hexec : ∀ x, args.toList = [x] → (execOp ev ⟨dst, .call ⟨.builtin .len, args, argTypes⟩, ty, pos, af, g⟩).run P w = ((Builtin.len_ argTypes ty #[ev x]).run P w).andThen fun v w' => .ok (.value v) w' := by
  intro x hx
  obtain rfl : args = #[x] := by apply Array.ext'; simpa using hx
  simp [execOp, resolve, invoke, builtin]
 simp only [ckOp] at hc
 split at hc
 ·cases hc
 ·cases hc
 ·cases hc
 ·rename_i kt et x hu hx
  cases hc
  simp only [Option.bind_eq_some_iff] at hu
  obtain ⟨t, ht, hu⟩ := hu
  obtain ⟨a, rfl, hx1⟩ := hv.map1
  simp only [aR, rLenMap] at ha
  split at ha
  ·rename_i b he
   simp only [List.cons.injEq, and_true] at he
   subst he
   simp only [Option.map_eq_some_iff] at ha
   obtain ⟨p, hp, rfl⟩ := ha
   cases hxe : ev x <;> rw [hxe] at hx1 <;> cases hx1
   rename_i L hρ
   obtain ⟨es', h1, h2, h3⟩ := (hs.map b L _ _ hρ (mapOf_some hp)).ex
   exact ⟨_, .int _ _, by rw [hexec _ hx]; simp [Builtin.len_, ht, run_underlying hu, hxe, goInt, MapKept.run_getObj_map h1, h2]⟩
  ·rename_i he
   simp only [List.cons.injEq, and_true] at he
   subst he; cases ha
   cases hxe : ev x <;> rw [hxe] at hx1 <;> cases hx1
   exact ⟨_, .int _ _, by rw [hexec _ hx]; simp [Builtin.len_, ht, run_underlying hu, hxe, goInt]⟩
  ·cases ha
 ·cases hc
def OneT (d : TypeDesc) (c : CK) : Prop := (d = .bool ∧ c = .b) ∨ ((∃ k, d = .int k) ∧ c = .i) ∨ (d = .string ∧ c = .s)
theorem sameNow_V {d : TypeDesc} {c : CK} (hd : OneT d c) {a b : AV} {x y : Value} {r : Bool} (h : aEqCk c a b = some r) (ha : VR ρ a x) (hb : VR ρ b y) : Instr.sameNow d x y = some r := by
 rcases hd with ⟨rfl, rfl⟩ | ⟨⟨k, rfl⟩, rfl⟩ | ⟨rfl, rfl⟩ <;> unfold aEqCk at h <;> split at h <;> simp_all <;> cases ha <;> cases hb <;> simp_all [Instr.sameNow]
def FRel (ρ : LMap) : Option (Nat × AV) → Option (Nat × Value) → Prop
 | none, none => True
 | some (i, v), some (j, v') => i = j ∧ VR ρ v v'
 | _, _ => False
def EsRel (ρ : LMap) (es : List (AV × AV × Nat)) (es' : List MapEntry) : Prop := es.length = es'.length ∧ ∀ (i : Nat) e e', es[i]? = some e → es'[i]? = some e' → VR ρ e.1 e'.key ∧ VR ρ e.2.1 e'.val
theorem EsRel.tail {e : AV × AV × Nat} {e' : MapEntry} {es : List (AV × AV × Nat)} {es' : List MapEntry} (h : EsRel ρ (e :: es) (e' :: es')) : (VR ρ e.1 e'.key ∧ VR ρ e.2.1 e'.val) ∧ EsRel ρ es es' :=
 ⟨h.2 0 e e' rfl rfl, by simpa using h.1, fun i x y hx hy => h.2 (i + 1) x y (by simpa using hx) (by simpa using hy)⟩
theorem findNow_run {d : TypeDesc} {c : CK} (hd : OneT d c) {key : AV} {key' : Value} (hv : VR ρ key key') : ∀ (es : List (AV × AV × Nat)) (es' : List MapEntry) (i : Nat) (r : Option (Nat × AV)),
  EsRel ρ es es' → aFind (.one c) key es i = some r → ∃ r', Instr.findNow d key' es' i = some r' ∧ FRel ρ r r' := by
 intro es
 induction es with
 | nil =>
  intro es' i r he h
  have : es' = [] := List.length_eq_zero_iff.mp he.1.symm
  subst this
  cases h
  exact ⟨none, rfl, trivial⟩
 | cons e es ih =>
  intro es' i r he h
  cases es' with
  | nil => have := he.1; simp at this
  | cons e' es' =>
   obtain ⟨⟨h1, h2⟩, ht⟩ := he.tail
   simp only [aFind, mapEq, Option.bind_eq_some_iff] at h
   obtain ⟨q, hq, h⟩ := h
   have hs := sameNow_V hd hq hv h1
   cases q with
   | true => cases h; exact ⟨some (i, e'.val), by simp [Instr.findNow, hs], rfl, h2⟩
   | false =>
    obtain ⟨r', g1, g2⟩ := ih es' (i + 1) r ht h
    exact ⟨r', by simp only [Instr.findNow, hs]; exact g1, g2⟩
theorem agg_equal {kt : TypeId} {ks : List CK} (hk : plainD P 8 kt = some ks) (hg : aggD P kt = some true) {a b : AV} {x y : Value} {r : Bool} (h : mapEq (.agg ks) a b = some r) (ha : VR ρ a x) (hb : VR ρ b y) (w : World) :
  (Op.equal kt x y).run P w = .ok r w := by
 unfold mapEq at h
 split at h
 ·rename_i h0; cases h0
 ·rename_i ks' la lb he
  cases he
  obtain ⟨cs, rfl, hcs⟩ := ha.agg_inv
  obtain ⟨ds, rfl, hds⟩ := hb.agg_inv
  have e := aEqCells_V h hcs hds
  have hrun := run_equalIn_plain 8 kt ks hk 10000 (by omega) cs.toList ds.toList r w e
  simp only [valT, hg] at hrun
  exact hrun
 ·cases h
theorem findAsking_run {kt : TypeId} {ks : List CK} (hk : plainD P 8 kt = some ks) (hg : aggD P kt = some true) {key : AV} {key' : Value} (hv : VR ρ key key') : ∀ (es : List (AV × AV × Nat)) (es' : List MapEntry) (i : Nat) (r : Option (Nat × AV)),
  EsRel ρ es es' → aFind (.agg ks) key es i = some r → ∃ r', (∀ w, (Instr.findAsking kt key' es' i).run P w = .ok r' w) ∧ FRel ρ r r' := by
 intro es
 induction es with
 | nil =>
  intro es' i r he h
  have : es' = [] := List.length_eq_zero_iff.mp he.1.symm
  subst this
  cases h
  exact ⟨none, fun w => rfl, trivial⟩
 | cons e es ih =>
  intro es' i r he h
  cases es' with
  | nil => have := he.1; simp at this
  | cons e' es' =>
   obtain ⟨⟨h1, h2⟩, ht⟩ := he.tail
   simp only [aFind, Option.bind_eq_some_iff] at h
   obtain ⟨q, hq, h⟩ := h
   have hs := fun w => agg_equal hk hg hq hv h1 w
   cases q with
   | true => cases h; exact ⟨some (i, e'.val), fun w => by simp [Instr.findAsking, hs], rfl, h2⟩
   | false =>
    obtain ⟨r', g1, g2⟩ := ih es' (i + 1) r ht h
    exact ⟨r', fun w => by simp [Instr.findAsking, hs, g1], g2⟩
theorem mkeyD_cases {kt : TypeId} {k : MK} (h : mkeyD P kt = some k) : (∃ d c, P.underlying kt = some d ∧ k = .one c ∧ OneT d c) ∨
  ∃ fs ks, P.underlying kt = some (.struct fs) ∧ k = .agg ks ∧ plainD P 8 kt = some ks ∧ ks.length = fs.size ∧ (∀ f ∈ fs.toList, oneD P f.type = true ∧ aggD P f.type = some false) ∧ fs.toList.map (·.offset) = List.range fs.size := by
 unfold mkeyD at h
 split at h
 ·rename_i hu; cases h; exact .inl ⟨_, _, hu, rfl, .inl ⟨rfl, rfl⟩⟩
 ·rename_i hu; cases h; exact .inl ⟨_, _, hu, rfl, .inr (.inl ⟨⟨_, rfl⟩, rfl⟩)⟩
 ·rename_i hu; cases h; exact .inl ⟨_, _, hu, rfl, .inr (.inr ⟨rfl, rfl⟩)⟩
 ·rename_i fs hu
  split at h
  ·rename_i hh
   simp only [Option.bind_eq_some_iff] at h
   obtain ⟨ks, hks, h⟩ := h
   split at h
   ·rename_i hl
    cases h
    refine .inr ⟨fs, ks, hu, rfl, hks, hl, fun f hf => ?_, hh.2.2⟩
    have := List.all_eq_true.mp hh.1 f hf
    simpa using this
   ·cases h
  ·cases h
 ·cases h
theorem run_forIn_yield {α : Type} {f : α → PUnit → Sem (ForInStep PUnit)} : ∀ (l : List α), (∀ x ∈ l, (f x ⟨⟩).run P w = .ok (.yield ⟨⟩) w) → (forIn l ⟨⟩ f).run P w = .ok ⟨⟩ w := by
 intro l
 induction l with
 | nil => intro _; rfl
 | cons x l ih =>
  intro h
  rw [List.forIn_cons]
  simp only [Sem.run_bind, h x (by simp), Result.andThen_ok]
  exact ih fun y hy => h y (by simp [hy])
theorem checkKey_run {kt : TypeId} {k : MK} (h : mkeyD P kt = some k) {key : AV} {key' : Value} (hf : keyFits k key = true) (hv : VR ρ key key') (emp : Bool) : (Instr.checkKey emp 10000 kt key').run P w = .ok () w := by
 rcases mkeyD_cases h with ⟨d, c, hu, rfl, hd⟩ | ⟨fs, ks, hu, rfl, hks, hl, hfs, hoff⟩
 ·rcases hd with ⟨rfl, rfl⟩ | ⟨⟨k, rfl⟩, rfl⟩ | ⟨rfl, rfl⟩ <;> cases key <;> simp [keyFits] at hf <;> cases hv <;> (unfold Instr.checkKey; simp [run_underlying hu])
 ·cases key <;> simp [keyFits] at hf
  rename_i l
  obtain ⟨cs, rfl, hcs⟩ := hv.agg_inv
  have hcl : cs.size = fs.size := by have := hcs.length; simp at this; omega
  unfold Instr.checkKey
  simp only [Sem.run_bind, run_underlying hu, Result.andThen_ok]
  rw [← Array.forIn_toList]
  refine (congrArg (fun r => Result.andThen r _) (run_forIn_yield _ fun f hf' => ?_)).trans rfl
  obtain ⟨h1, h2⟩ := hfs f hf'
  have ho : f.offset < cs.size := by
   have : f.offset ∈ List.range fs.size := by rw [← hoff]; exact List.mem_map.mpr ⟨f, hf', rfl⟩
   rw [List.mem_range] at this; omega
  have hc0 : ∀ v, (Instr.checkKey emp 9999 f.type v).run P w = .ok () w := by
   intro v
   unfold oneD at h1
   split at h1
   ·rename_i hu2; unfold Instr.checkKey; simp [run_underlying hu2]
   ·rename_i hu2; unfold Instr.checkKey; simp [run_underlying hu2]
   ·rename_i hu2; unfold Instr.checkKey; simp [run_underlying hu2]
   ·cases h1
  have hp : (part f.type cs f.offset).run P w = .ok cs[f.offset] w := by simp [part, run_isAgg h2, ho]
  by_cases hn : f.name = "_"
  ·simp [hn]
  ·simp [hn, hp, hc0]
theorem findKey_run {kt : TypeId} {k : MK} (h : mkeyD P kt = some k) {key : AV} {key' : Value} (hf : keyFits k key = true) (hv : VR ρ key key') {es : List (AV × AV × Nat)} {es' : List MapEntry} {r : Option (Nat × AV)} (he : EsRel ρ es es')
  (hr : aFind k key es 0 = some r) : ∃ r', (Instr.findKey kt key' es').run P w = .ok r' w ∧ FRel ρ r r' := by
 rcases mkeyD_cases h with ⟨d, c, hu, rfl, hd⟩ | ⟨fs, ks, hu, rfl, hks, hl, hfs, hoff⟩
 ·obtain ⟨r', h1, h2⟩ := findNow_run hd hv es es' 0 r he hr
  exact ⟨r', MapKept.run_findKey hu h1, h2⟩
 ·have hg : aggD P kt = some true := by unfold aggD; rw [hu]
  cases es' with
  | nil =>
   have : es = [] := List.length_eq_zero_iff.mp he.1
   subst this
   cases hr
   exact ⟨none, MapKept.run_findKey hu rfl, trivial⟩
  | cons e' es' =>
   obtain ⟨r', h1, h2⟩ := findAsking_run hks hg hv es (e' :: es') 0 r he hr
   refine ⟨r', ?_, h2⟩
   have hn : Instr.findNow (.struct fs) key' (e' :: es') 0 = none := rfl
   simp [Instr.findKey, run_underlying hu, hn, h1]
theorem Sim.esRel (hs : Sim m ρ w) {b : Nat} {L : Loc} {p : List (AV × AV × Nat) × Nat} (hρ : ρ b = some L) (hp : mapOf m b = some p) :
  ∃ es' : Array MapEntry, w.heap[L.blk]? = some (.map es' p.2) ∧ EsRel ρ p.1 es'.toList ∧ ∀ (i : Nat) e e', p.1[i]? = some e → es'[i]? = some e' → e'.born = e.2.2 := by
 obtain ⟨es', h1, h2, h3⟩ := (hs.map b L _ _ hρ (mapOf_some hp)).ex
 refine ⟨es', h1, ⟨by simpa using h2, fun i e e' he he' => ?_⟩, fun i e e' he he' => (h3 i e e' he he').2.2⟩
 rw [Array.getElem?_toList] at he'
 exact ⟨(h3 i e e' he he').1, (h3 i e e' he he').2.1⟩
theorem lookup_sound {o : Oper} {k : MK} {zero : AV} {ok : Bool} {xs : List Operand} {vs : List AV} {v : AV} (hc : ckOp P o.op = some (.lookup k zero ok, xs)) (ha : aR (.lookup k zero ok) vs m = some v)
  (hv : VRL ρ vs (xs.map ev)) (hs : Sim m ρ w) : ∃ v', VR ρ v v' ∧ (execOp ev o).run P w = .ok (.value v') w := by
 obtain ⟨dst, op, ty, pos, af, g⟩ := o
 cases op
 case lookup t x i ok' =>
  simp only [ckOp] at hc
  split at hc
  ·rename_i kt et hu
   simp only [Option.bind_eq_some_iff, Option.map_eq_some_iff] at hc
   obtain ⟨k', hk, inf, hi, z, hz, zv, hzv, hc⟩ := hc
   cases hc
   obtain ⟨a, b, rfl, h1, h2⟩ := hv.map2
   simp only [aR, rLookup] at ha
   split at ha
   ·rename_i bb key he
    simp only [List.cons.injEq, and_true] at he
    obtain ⟨rfl, rfl⟩ := he
    split at ha
    ·rename_i hfit
     simp only [Option.bind_eq_some_iff, Option.map_eq_some_iff] at ha
     obtain ⟨p, hp, r, hr, rfl⟩ := ha
     cases hxe : ev x <;> rw [hxe] at h1 <;> cases h1
     rename_i L hρ
     obtain ⟨es', hb, hes, _⟩ := hs.esRel hρ hp
     obtain ⟨r', hrun, hrel⟩ := findKey_run (w := w) hk hfit h2 hes hr
     have hck := checkKey_run (w := w) hk hfit h2 es'.isEmpty
     have hzr : (zeroValue et).run P w = .ok z w := by simp [zeroValue, typeInfo, hi, hz]
     have hexec : (execOp ev ⟨dst, .lookup t x i ok, ty, pos, af, g⟩).run P w = ((Instr.lookup t (ev x) (ev i) ok).run P w).andThen fun v w' => .ok (.value v) w' := by simp [execOp]
     cases r with
     | none =>
      cases r' with
      | some q => exact hrel.elim
      | none =>
       cases ok with
       | true => exact ⟨.tuple #[z, .bool false], .mk_tup' (.cons (ofConst_VR hzv) (.cons (.bool _) .nil)), by rw [hexec]; simp [Instr.lookup, run_underlying hu, hxe, MapKept.run_getObj_map hb, hck, hrun, hzr]⟩
       | false => exact ⟨z, ofConst_VR hzv, by rw [hexec]; simp [Instr.lookup, run_underlying hu, hxe, MapKept.run_getObj_map hb, hck, hrun, hzr]⟩
     | some q =>
      cases r' with
      | none => exact hrel.elim
      | some q' =>
       obtain ⟨-, hvr⟩ := hrel
       cases ok with
       | true => exact ⟨.tuple #[q'.2, .bool true], .mk_tup' (.cons hvr (.cons (.bool _) .nil)), by rw [hexec]; simp [Instr.lookup, run_underlying hu, hxe, MapKept.run_getObj_map hb, hck, hrun]⟩
       | false => exact ⟨q'.2, hvr, by rw [hexec]; simp [Instr.lookup, run_underlying hu, hxe, MapKept.run_getObj_map hb, hck, hrun]⟩
    ·cases ha
   ·cases ha
  ·cases hc
 case load t a => simp [ckOp, Option.bind_eq_some_iff] at hc
 all_goals (have := ck_cls hc ⟨by simp, by simp, by simp, by simp⟩; simp [AK.cls, opCls] at this)
 rename_i c
 obtain ⟨callee, args, at_⟩ := c
 cases callee with
 | builtin b => cases b <;> simp at this
 | value f => simp at this
 | invoke r n => simp at this
theorem read_sound {o : Oper} {k : AK} {xs : List Operand} {vs : List AV} {v : AV} (hc : ckOp P o.op = some (k, xs)) (hk : k.cls = .read) (ha : aR k vs m = some v)
  (hv : VRL ρ vs (xs.map ev)) (hs : Sim m ρ w) : ∃ v' w', VR ρ v v' ∧ (execOp ev o).run P w = .ok (.value v') w' ∧ Sim m ρ w' ∧ Step m m ρ ρ w w' := by
 by_cases hno : k = .mark
 ·subst hno
  obtain ⟨dst, op, ty, pos, af, g⟩ := o
  cases op
  case convert src dst' x =>
   simp only [ckOp] at hc
   split at hc
   ·cases hc
   ·split at hc <;> cases hc
   ·split at hc <;> cases hc
   ·rename_i e1 e2 h1 h2
    split at hc
    ·rename_i hh
     obtain ⟨rfl, he⟩ := hh
     have he := isU8_eq he
     obtain rfl : e1 = e2 := by rw [h1] at h2; cases h2; rfl
     cases hc
     obtain ⟨a, rfl, hx⟩ := hv.map1
     simp only [aR, rMark] at ha
     split at ha
     ·rename_i b o len cap s hvs
      simp only [List.cons.injEq, and_true] at hvs
      subst hvs
      split at ha
      ·rename_i hp
       cases ha
       obtain ⟨L, ad, cap', hxe, hρ, hlc, hcc, hex, haddr, hlim⟩ := hx.sl_inv
       have haa := haddr (by omega)
       obtain ⟨w', g1, g2, g3⟩ := mark_exec (P := P) hs hρ hp.2 (a := ad) (by rw [haa]; rfl)
       refine ⟨ev x, w', hx, ?_, g2, g3⟩
       simp [execOp, hxe, convert, run_underlying h1, run_underlying he, g1]
      ·cases ha
     ·cases ha
    ·cases hc
   ·cases hc
  all_goals (obtain ⟨_, _, _, e⟩ := ck_conv hc (.inr (.inl rfl)); cases e)
 ·obtain ⟨v', h1, h2⟩ : ∃ v', VR ρ v v' ∧ (execOp ev o).run P w = .ok (.value v') w := by
   cases k <;> simp only [AK.cls, reduceCtorEq, ne_eq, not_true_eq_false] at hk hno
   ·exact load_sound hc ha hv hs
   ·exact b2s_sound hc ha hv hs
   ·exact lenMap_sound hc ha hv hs
   ·exact lookup_sound hc ha hv hs
  exact ⟨v', w, h1, h2, hs, .refl _ _ _⟩
theorem alloc_get (w : World) (o : Obj) : (w.alloc o).heap[w.heap.size]? = some o := by
 show (w.heap.push o)[w.heap.size]? = _
 simp
theorem rowAt_new {cells : List AV} {C : Array Value} (h : VRL ρ cells C.toList) (hf : cells.all AV.flat = true) (e : TypeId) : RowAt ρ (w.alloc (.cells C e)) ⟨w.heap.size, 0, C.size⟩ cells false := by
 have hl := h.length
 simp only [Array.length_toList] at hl
 refine ⟨⟨C, e, (0, 0), alloc_get w _, rfl, by simp [hl], fun i v hv => ?_, fun _ => .inl rfl⟩, hf⟩
 have hlt := lt_of_get hv
 have hg : C[0 + i]? = some (C[i]'(by omega)) := by simp [show i < C.size by omega]
 exact ⟨_, hg, h.get i v _ hv (by simp [show i < C.size by omega])⟩
structure MakeTo (P : Program) (ρ : LMap) (w : World) (s : Sem Next) (k : Blk) (mk : Nat → AV) : Prop where
 ex : ∃ W cells o lim v', (W = w ∨ W = w.drew) ∧ k = .row cells false ∧ s.run P w = .ok (.value v') (W.alloc o) ∧ RowAt ρ (W.alloc o) ⟨w.heap.size, 0, lim⟩ cells false ∧
  ∀ (ρ' : LMap) (id : Nat), ρ' id = some ⟨w.heap.size, 0, lim⟩ → VR ρ' (mk id) v'
theorem rep_get (z : List AV) : ∀ (n i : Nat), i < n * z.length → (rep n z)[i]? = z[i % z.length]? := by
 intro n
 induction n with
 | zero => intro i h; simp at h
 | succ n ih =>
  intro i h
  have e : rep (n + 1) z = z ++ rep n z := by simp [rep, List.replicate_succ]
  rw [e]
  by_cases hi : i < z.length
  ·rw [List.getElem?_append_left hi, Nat.mod_eq_of_lt hi]
  ·rw [List.getElem?_append_right (by omega), ih _ (by rw [Nat.add_mul, Nat.one_mul] at h; omega)]
   congr 1
   rw [Nat.mod_eq_sub_mod (by omega : z.length ≤ i)]
theorem rep_length (z : List AV) (n : Nat) : (rep n z).length = n * z.length := by
 simp [rep, List.length_flatten]
theorem rep_flat {z : List AV} (h : z.all AV.flat = true) (n : Nat) : (rep n z).all AV.flat = true := by
 rw [List.all_eq_true] at *
 intro x hx
 simp only [rep, List.mem_flatten, List.mem_replicate] at hx
 obtain ⟨l, ⟨_, rfl⟩, hx⟩ := hx
 exact h x hx
theorem rep_VRL {z : List AV} {Z : Array Value} (h : VRL ρ z Z.toList) (h0 : 0 < z.length) (n : Nat) :
  VRL ρ (rep n z) ((Array.range (n * Z.size)).map (Z[· % Z.size]!)).toList := by
 have hl := h.length
 simp only [Array.length_toList] at hl
 refine .of _ _ (by simp [rep_length, hl]) fun i x y hx hy => ?_
 have hlt := lt_of_get hx
 rw [rep_length] at hlt
 rw [rep_get z n i hlt] at hx
 have hm : i % Z.size < Z.size := Nat.mod_lt _ (by omega)
 simp only [Array.toList_map, List.getElem?_map, Array.getElem?_toList, Option.map_eq_some_iff] at hy
 obtain ⟨j, hj, rfl⟩ := hy
 have hj' : j = i := by
  rw [Array.getElem?_range] at hj
  split at hj <;> cases hj
  rfl
 subst hj'
 refine h.get _ x _ hx ?_
 rw [hl, Array.getElem?_toList, Array.getElem!_eq_getD, Array.getD, dif_pos hm]
 simp [hm]
theorem strCells_VRL (ρ : LMap) (s : ByteArray) : VRL ρ (strCells s) (s.data.map fun b => Value.int .u8 b.toNat).toList := by
 rw [Array.toList_map]
 unfold strCells
 induction s.data.toList with
 | nil => exact .nil
 | cons a l ih => exact .cons (.int _ _) ih
theorem strCells_len (s : ByteArray) : (strCells s).length = s.size := by
 unfold strCells; rw [List.length_map, Array.length_toList]; rfl
theorem strCells_flat (s : ByteArray) : (strCells s).all AV.flat = true := by
 unfold strCells; rw [List.all_map, List.all_eq_true]; intro x _; rfl
theorem s2b_sound {o : Oper} {xs : List Operand} {vs : List AV} {b : Blk} {mk : Nat → AV} (hc : ckOp P o.op = some (.s2b, xs)) (ha : aA .s2b vs = some (b, mk))
  (hv : VRL ρ vs (xs.map ev)) : MakeTo P ρ w (execOp ev o) b mk := by
 obtain ⟨dst, op, ty, pos, af, g⟩ := o
 obtain ⟨src, dst', x, hop⟩ := ck_conv hc (.inl rfl)
 simp only at hop
 subst hop
 simp only [ckOp] at hc
 split at hc
 ·cases hc
 ·rename_i e h1 h2
  split at hc
  ·rename_i he
   have he := isU8_eq he
   cases hc
   obtain ⟨a, rfl, hx⟩ := hv.map1
   simp only [aA, mkS2b] at ha
   split at ha
   ·rename_i s hvs
    simp only [List.cons.injEq, and_true] at hvs
    subst hvs
    cases ha
    have hxe : ev x = .string s := by cases hxe : ev x <;> rw [hxe] at hx <;> cases hx; rfl
    have hrun := run_bytes_of_string (P := P) w src dst' e s h1 h2 he
    have hgc : s.size ≤ grownCap w s.size 0 e := by simp only [grownCap, Question.cut]; omega
    have hds : s.data.size = s.size := rfl
    have hbr : (bytesRow s (grownCap w s.size 0 e)).size = grownCap w s.size 0 e := by unfold bytesRow; simp; omega
    refine ⟨w.drew, _, .cells (bytesRow s (grownCap w s.size 0 e)) e ((bytesRow s (grownCap w s.size 0 e)).size, (bytesRow s (grownCap w s.size 0 e)).size + 1), (bytesRow s (grownCap w s.size 0 e)).size, .slice (some ⟨w.heap.size, 0, none⟩) s.size (grownCap w s.size 0 e), .inr rfl, rfl, by simp [execOp, hxe, hrun], ?_, fun ρ' id h => ?_⟩
    ·refine ⟨⟨_, e, _, alloc_get w.drew _, rfl, ?_, fun i v hv => ?_, fun _ => .inr (Nat.le_refl _)⟩, strCells_flat s⟩
     ·rw [strCells_len, hbr]; simp only; omega
     ·have hlt := lt_of_get hv
      rw [strCells_len] at hlt
      refine ⟨(s.data.map fun b => Value.int .u8 b.toNat)[i]'(by simp; omega), ?_, (strCells_VRL ρ s).get i v _ hv (by rw [Array.getElem?_toList]; exact Array.getElem?_eq_getElem _)⟩
      unfold bytesRow
      rw [Nat.zero_add, Array.getElem?_append_left (by simp; omega)]
      exact Array.getElem?_eq_getElem _
    ·refine .mk_sl h (Nat.le_refl _) hgc (fun h => absurd h (by omega)) (fun _ => rfl) (fun _ _ => ?_)
     simp only [hbr]; omega
   ·cases ha
  ·cases hc
 ·split at hc <;> cases hc
 ·split at hc <;> cases hc
 ·cases hc
theorem make_sound {o : Oper} {k : AK} {xs : List Operand} {vs : List AV} {b : Blk} {mk : Nat → AV} (hc : ckOp P o.op = some (k, xs)) (hk : k.cls = .make) (hnm : k ≠ .mkMap) (ha : aA k vs = some (b, mk))
  (hv : VRL ρ vs (xs.map ev)) : MakeTo P ρ w (execOp ev o) b mk := by
 by_cases hno : k = .s2b
 ·exact s2b_sound (by rw [← hno]; exact hc) (by rw [← hno]; exact ha) hv
 have hcls := ck_cls hc ⟨hno, (by rintro rfl; cases hk), (by rintro rfl; cases hk), by rintro rfl; cases hk⟩
 rw [hk] at hcls
 obtain ⟨dst, op, ty, pos, af, g⟩ := o
 cases op
 case alloc t =>
  simp only [ckOp, Option.map_eq_some_iff] at hc
  obtain ⟨z, hz, hc⟩ := hc
  cases hc
  cases hv
  cases ha
  obtain ⟨hzf, zv, hzv, hzr⟩ := zeroD_run (P := P) (ρ := ρ) hz
  refine ⟨w, _, .cells zv.cells t, zv.cells.size, .pointer (some ⟨w.heap.size, 0, none⟩), .inl rfl, rfl, ?_, rowAt_new hzv hzf t, fun ρ' id h => .ptr h⟩
  simp [execOp, Instr.alloc, hzr, newVar, newRow]
 case box t x =>
  cases hc
  obtain ⟨a, rfl, h1⟩ := hv.map1
  simp only [aA, mkBox] at ha
  split at ha
  ·rename_i hso
   cases ha
   refine ⟨w, _, .cells (ev x).cells t, (ev x).cells.size, .pointer (some ⟨w.heap.size, 0, none⟩), .inl rfl, rfl, ?_, rowAt_new h1.cells (h1.cells_flat hso) t, fun ρ' id h => .ptr h⟩
   simp [execOp, Instr.box, newVar, newRow]
  ·cases ha
 case makeSlice t l c =>
  simp only [ckOp] at hc
  split at hc
  ·rename_i e hu
   simp only [Option.bind_eq_some_iff] at hc
   obtain ⟨z, hz, bb, hb, hc⟩ := hc
   split at hc
   ·rename_i hh
    cases hc
    obtain ⟨x, y, rfl, h1, h2⟩ := hv.map2
    simp only [aA, mkMake] at ha
    split at ha
    ·rename_i k1 lv k2 cv he
     simp only [List.cons.injEq, and_true] at he
     obtain ⟨rfl, rfl⟩ := he
     split at ha
     ·rename_i hlc
      cases ha
      cases hx : ev l <;> rw [hx] at h1 <;> cases h1
      cases hy : ev c <;> rw [hy] at h2 <;> cases h2
      unfold zeroD at hz
      simp only [Option.bind_eq_some_iff] at hz
      obtain ⟨i, hi, zv, hzv, hz⟩ := hz
      have hzl : VRL ρ z zv.cells.toList := ofCells_VRL hz
      have hzs := hzl.length
      simp only [Array.length_toList] at hzs
      have hsz : i.size = z.length := by simpa [sizeD, hi] using hh.1
      have hby : i.bytes = bb := by simpa [bytesD, hi] using hb
      have hr := run_make (P := P) w t e i zv hu hi hzv k1 k2 lv cv hlc.1 hlc.2.1 (by rw [hby, Int.mul_comm]; omega) (by omega)
      have hrow := rep_VRL hzl hh.2 cv.toNat
      rw [hsz] at hr
      refine ⟨w, _, .cells (madeCells zv.cells (cv.toNat * z.length)) e, cv.toNat * z.length, .slice (some ⟨w.heap.size, 0, none⟩) lv.toNat cv.toNat, .inl rfl, rfl, ?_, ?_, fun ρ' id h => ?_⟩
      ·simp [execOp, hx, hy, hr]
      ·have := rowAt_new (w := w) (e := e) hrow (rep_flat (ofCells_flat hz) _)
       rw [← hzs] at this
       have hsize : ((Array.range (cv.toNat * z.length)).map (zv.cells[· % zv.cells.size]!)).size = cv.toNat * z.length := by simp
       unfold madeCells
       rw [hzs] at this ⊢
       simpa using this
      ·refine .mk_sl h (by omega) (Nat.le_refl _) (fun _ => rfl) (fun _ => rfl) (fun _ h => absurd h (by omega))
     ·cases ha
    ·cases ha
   ·cases hc
  ·cases hc
 case buildSlice t n parts =>
  have hzip : ∀ l : List (Nat × Operand), l.map (fun (i, x) => (i, ev x)) = (l.map (·.1)).zip ((l.map (·.2)).map ev) := by
   intro l
   induction l with
   | nil => rfl
   | cons p l ih => simp [ih]
  simp only [ckOp] at hc
  split at hc
  ·rename_i e hu
   simp only [Option.bind_eq_some_iff] at hc
   obtain ⟨z, hz, hc⟩ := hc
   split at hc
   ·rename_i hh
    cases hc
    simp only [aA, Option.map_eq_some_iff] at ha
    obtain ⟨cells, hcells, ha⟩ := ha
    cases ha
    obtain ⟨hzf, zv, hzv, hzr⟩ := zeroD_run (P := P) (ρ := ρ) hz
    have hzs := hzv.length
    simp only [Array.length_toList] at hzs
    have hrow := rep_VRL hzv hh.2.1 n
    rw [← hzs] at hrow
    obtain ⟨r', g1, g2, g3⟩ := aFill_run (place := fun i => some (i * z.length, z.length)) _ _ _ _ ((Array.range (n * z.length)).map (zv.cells[· % zv.cells.size]!)) (parts.toList.map (·.1)) _ hcells
     (by rw [hzs] at hrow ⊢; exact hrow) (rep_flat hzf _) hv (by simp [Function.comp_def])
    have hsz := hh.1
    have hlim : ¬ (n * z.length > 2 ^ 24) := by have := hh.2.2; omega
    have hle := g2.length
    refine ⟨w, _, .cells r' e, r'.size, .slice (some ⟨w.heap.size, 0, none⟩) n n, .inl rfl, rfl, ?_, rowAt_new g2 g3 e, fun ρ' id h => ?_⟩
    ·have hexec : execOp ev ⟨dst, .buildSlice t n parts, ty, pos, af, g⟩ = (do pure (.value (← Instr.buildSlice t n (parts.map fun (i, x) => (i, ev x))))) := rfl
     rw [hexec]
     have hg1 : Instr.fill (fun i => some (i * z.length, z.length)) ((Array.range (n * z.length)).map (zv.cells[· % zv.cells.size]!)) (parts.map fun (i, x) => (i, ev x)).toList = some r' := by
      rw [Array.toList_map, hzip]; exact g1
     by_cases hn : n * z.length = 0
     ·have hr0 : ∀ f : Nat → Value, (Array.range (n * z.length)).map f = #[] := fun f => by rw [hn]; simp [Array.range_zero']
      rw [hr0] at hg1
      simp [Instr.buildSlice, run_underlying hu, run_sizeOf hsz, hr0, newRow, show ¬ 16777216 < n * z.length by omega]
      rw [if_pos (by simpa using hn)]
      simp at hg1
      simp [hg1]
     ·simp at hg1
      simp [Instr.buildSlice, run_underlying hu, run_sizeOf hsz, newRow, show ¬ 16777216 < n * z.length by omega, hzr, hg1]
      exact fun h => absurd h hn
    ·refine .mk_sl h (Nat.le_refl _) (Nat.le_refl _) (fun _ => rfl) (fun _ => rfl) (fun _ h => absurd h (by omega))
   ·cases hc
  ·cases hc
 case makeMap t r => simp only [ckOp] at hc; split at hc <;> cases hc; exact absurd rfl hnm
 case call c =>
  exfalso
  obtain ⟨callee, args, at_⟩ := c
  cases callee with
  | builtin b => cases b <;> simp [opCls] at hcls
  | value f => simp [opCls] at hcls
  | invoke r n => simp [opCls] at hcls
 all_goals (simp [opCls] at hcls)
theorem mkMap_sound {o : Oper} {xs : List Operand} (hc : ckOp P o.op = some (.mkMap, xs)) : (execOp ev o).run P w = .ok (.value (.map (some w.heap.size))) (w.alloc (.map #[] 0)) := by
 obtain ⟨dst, op, ty, pos, af, g⟩ := o
 have hcls := ck_cls hc ⟨by simp, by simp, by simp, by simp⟩
 cases op
 case makeMap t r =>
  simp only [ckOp] at hc
  split at hc
  ·simp [execOp, Instr.makeMap]
  ·cases hc
 case alloc t => simp [ckOp] at hc
 case box t x => cases hc
 case makeSlice t a b => simp only [ckOp] at hc; split at hc <;> simp [Option.bind_eq_some_iff] at hc
 case buildSlice t a b => simp only [ckOp] at hc; split at hc <;> simp [Option.bind_eq_some_iff] at hc
 case call c =>
  obtain ⟨callee, args, at_⟩ := c
  cases callee with
  | builtin b => cases b <;> simp [opCls, AK.cls] at hcls
  | value f => simp [opCls, AK.cls] at hcls
  | invoke r n => simp [opCls, AK.cls] at hcls
 all_goals (simp [opCls, AK.cls] at hcls)
end
end Go.Adm
end
section
namespace Go.Adm
theorem flat_oneCell {ρ : LMap} {a : AV} {x : Value} (h : VR ρ a x) (hf : a.flat = true) : x.oneCell' = true := by
 cases h <;> first | rfl | simp [AV.flat] at hf
theorem run_storeCells_row {P : Program} {B off : Nat} {e : TypeId} {fz : Nat × Nat} : ∀ (vs : List Value) (i : Nat) (C : Array Value) (w : World), w.heap[B]? = some (.cells C e fz) → off + i + vs.length ≤ C.size →
  (∀ j, j < C.size → ¬ (fz.1 ≤ j ∧ j < fz.2)) → (∀ v ∈ vs, v.oneCell' = true) →
  ∃ C' w', (storeCells ⟨B, off, none⟩ vs i).run P w = .ok () w' ∧ w'.heap[B]? = some (.cells C' e fz) ∧ C'.toList = C.toList.take (off + i) ++ vs ++ C.toList.drop (off + i + vs.length) ∧
   (∀ B', B' ≠ B → w'.heap[B']? = w.heap[B']?) ∧ w'.heap.size = w.heap.size ∧ w'.os = w.os ∧ w'.tape = w.tape ∧ w'.output = w.output := by
 intro vs
 induction vs with
 | nil => intro i C w h _ _ _; exact ⟨C, w, rfl, h, by simp, fun _ _ => rfl, rfl, rfl, rfl, rfl⟩
 | cons v vs ih =>
  intro i C w h hl hf h1
  simp only [List.length_cons] at hl
  have hadd : (⟨B, off, none⟩ : Addr).add i = ⟨B, off + i, none⟩ := by unfold Addr.add; split <;> simp_all
  have hc : w.cell? ⟨B, off + i, none⟩ = some (C[off + i]'(by omega)) := by simp [World.cell?, h, show off + i < C.size by omega]
  have hfr : w.frozen? ⟨B, off + i, none⟩ = false := by
   have := hf (off + i) (by omega)
   obtain ⟨lo, hi⟩ := fz
   simp only [World.frozen?, h]
   simpa using this
  have hst : (store ((⟨B, off, none⟩ : Addr).add i) v).run P w = .ok () (w.setCell ⟨B, off + i, none⟩ v) := by
   rw [hadd, run_store P w _ v _ (h1 v (by simp))]
   simp [hc, hfr]
  have hh : (w.setCell ⟨B, off + i, none⟩ v).heap[B]? = some (.cells (C.setIfInBounds (off + i) v) e fz) := by
   simp only [World.setCell, Array.getElem?_modify, h]
   simp
  obtain ⟨C', w', g1, g2, g3, g4, g5, g6, g7, g8⟩ := ih (i + 1) (C.setIfInBounds (off + i) v) _ hh (by simp; omega) (fun j hj => hf j (by simpa using hj)) (fun x hx => h1 x (by simp [hx]))
  refine ⟨C', w', ?_, g2, ?_, fun B' hB => ?_, ?_, g6, g7, g8⟩
  ·simp only [storeCells, Sem.run_bind, hst, Result.andThen_ok, g1]
  ·rw [g3]
   have := foldl_put off (v :: vs) C i (by simp; omega)
   have h2 := foldl_put off vs (C.setIfInBounds (off + i) v) (i + 1) (by simp; omega)
   rw [List.zipIdx_cons, List.foldl_cons, h2] at this
   exact this
  ·rw [g4 B' hB]; exact RowKit.Below.heap_setCell w _ _ _ hB
  ·rw [g5]; simp [World.setCell]
section
variable {P : Program} {ρ : LMap} {ev : Operand → Value} {m : Mem} {w : World}
theorem splice_length {cells new : List AV} {o : Nat} (h : o + new.length ≤ cells.length) : (splice cells o new).length = cells.length := by
 simp [splice]; omega
def Wrote (P : Program) (ρ : LMap) (m : Mem) (w : World) (s : Sem Next) (v : AV) (m' : Mem) : Prop :=
 ∃ nx v' w' ρ', s.run P w = .ok nx w' ∧ (nx = .value v' ∨ (nx = .skip ∧ v' = undef)) ∧ VR ρ' v v' ∧ Sim m' ρ' w' ∧ Step m m' ρ ρ' w w'
theorem VRL.oneCells {l : List AV} {r : List Value} (h : VRL ρ l r) (hf : l.all AV.flat = true) : ∀ v ∈ r, v.oneCell' = true := by
 induction h with
 | nil => intro v hv; cases hv
 | cons a _ ih =>
  simp only [List.all_cons, Bool.and_eq_true] at hf
  intro v hv
  cases hv with
  | head => exact flat_oneCell a hf.1
  | tail _ hv => exact ih hf.2 v hv
theorem put_cells (hs : Sim m ρ w) {b o : Nat} {L : Loc} {cells new : List AV} {new' : List Value} (hb : ρ b = some L) (hm : own m b = some cells) (hn : VRL ρ new new') (hle : o + new.length ≤ cells.length)
  (hnf : new.all AV.flat = true) : ∃ w', (storeCells (L.addr o) new').run P w = .ok () w' ∧ Sim (m.set b (.row (splice cells o new) false)) ρ w' ∧ Step m (m.set b (.row (splice cells o new) false)) ρ ρ w w' := by
 have hm := own_some hm
 have hflat := hn.oneCells hnf
 have hnl := hn.length
 obtain ⟨C, e, fz, h1, h2, h3, h4, h5⟩ := (hs.row b L cells false hb hm).ex
 obtain ⟨C', w', g1, g2, g3, g4, g5, g6, g7, g8⟩ := run_storeCells_row (P := P) (off := L.base + o) new' 0 C w h1 (by omega) (fun j hj => (h5 rfl).no j (by omega)) hflat
 have hlt := lt_of_get hm
 refine ⟨w', g1, ?_, ?_⟩
 ·refine hs.change hb hm (cells' := splice cells o new) (by rw [List.getElem?_set_self hlt]) (fun x hx => by rw [List.getElem?_set_ne (Ne.symm hx)]) ?_ g4 g5
  have hsz : C'.size = C.size := by
   have := congrArg List.length g3
   simp at this
   omega
  refine ⟨⟨C', e, fz, g2, by omega, by rw [splice_length hle]; omega, fun i v hv => ?_, fun _ => h5 rfl⟩, all_splice (hs.row b L cells false hb hm).flat hnf _⟩
  have hvr : VRL ρ (splice cells o new) ((C.toList.drop L.base).take o ++ new' ++ ((C.toList.drop L.base).drop (o + new'.length)).take (cells.length - (o + new'.length))) := by
   have hc : VRL ρ cells ((C.toList.drop L.base).take cells.length) := by
    refine .of _ _ (by simp; omega) fun i x y hx hy => ?_
    have hi := lt_of_get hx
    rw [List.getElem?_take_of_lt hi, List.getElem?_drop, Array.getElem?_toList] at hy
    obtain ⟨v', a1, a2⟩ := h4 i x hx
    rw [a1] at hy; cases hy; exact a2
   have q1 := hc.take o
   have q2 := hc.drop (o + new.length)
   rw [List.take_take, Nat.min_eq_left (by omega)] at q1
   rw [List.drop_take, hnl] at q2
   unfold splice
   rw [hnl]
   exact (q1.append hn).append q2
  have hi := lt_of_get hv
  rw [splice_length hle] at hi
  have e1 : C'.toList.drop L.base = (C.toList.drop L.base).take o ++ new' ++ (C.toList.drop L.base).drop (o + new'.length) := by
   have m1 : L.base ≤ (C.toList.take (L.base + o)).length := by
    rw [List.length_take, Array.length_toList, Nat.min_eq_left (by omega)]; omega
   rw [g3, Nat.add_zero, List.append_assoc, List.drop_append_of_le_length m1, List.drop_take, List.drop_drop, List.append_assoc]
   rw [show L.base + o - L.base = o by omega, show L.base + o + new'.length = L.base + (o + new'.length) by omega]
  have hy : C'[L.base + i]? = ((C.toList.drop L.base).take o ++ new' ++ ((C.toList.drop L.base).drop (o + new'.length)).take (cells.length - (o + new'.length)))[i]? := by
   have e2 : C'[L.base + i]? = (C'.toList.drop L.base)[i]? := by rw [List.getElem?_drop, Array.getElem?_toList]
   have hlen := hvr.length
   rw [splice_length hle] at hlen
   rw [e2, e1, ← List.take_append_drop (cells.length - (o + new'.length)) ((C.toList.drop L.base).drop (o + new'.length)), ← List.append_assoc, List.getElem?_append_left (by omega), List.take_append_drop]
  obtain ⟨y, hy2⟩ : ∃ y, C'[L.base + i]? = some y := ⟨C'[L.base + i]'(by omega), by simp [show L.base + i < C'.size by omega]⟩
  exact ⟨y, hy2, hvr.get i v y hv (by rw [← hy, hy2])⟩
 ·exact .change hb hm rfl rfl rfl g4 g5 g6 g7 g8
theorem elems_run {size n : Nat} {v : AV} {v' : Value} {new : List AV} (h : elems size n v m = some new) (hv : VR ρ v v') (hs : Sim m ρ w) :
  ∃ cs : List Value, cs.length = n * size ∧ VRL ρ new cs ∧ new.all AV.flat = true ∧ (Builtin.firstCells size n v').run P w = .ok cs.toArray w ∧ ∀ W : World, W.heap = w.heap → (Builtin.firstCells size n v').run P W = .ok cs.toArray W := by
 unfold elems at h
 split at h
 ·split at h
  ·rename_i hn
   cases h; cases hv; subst hn
   exact ⟨[], by simp, .nil, rfl, by simp [Builtin.firstCells], fun W _ => by simp [Builtin.firstCells]⟩
  ·cases h
 ·obtain ⟨L, a, cap', rfl, hρ, hlc, hcc, _, haddr, _⟩ := hv.sl_inv
  split at h
  ·rename_i hn
   cases h; subst hn
   exact ⟨[], by simp, .nil, rfl, by simp [Builtin.firstCells, loadCells, loadCellsFrom], fun W _ => by simp [Builtin.firstCells, loadCells, loadCellsFrom]⟩
  ·split at h
   ·simp only [Option.bind_eq_some_iff] at h
    obtain ⟨cells, hr, h⟩ := h
    split at h
    ·rename_i hle
     cases h
     obtain ⟨cs, c1, c2, c3⟩ := hs.cells hρ hr hle
     rw [haddr (by omega)]
     refine ⟨cs, c1, c2, all_take (all_drop (hs.flat hρ hr) _) _, run_firstCells_some w size n _ _ _ cs c1 c3, fun W hW => run_firstCells_some W size n _ _ _ cs c1 fun j v hv => ?_⟩
     have := c3 j v hv
     unfold World.cell? at this ⊢
     rw [hW]; exact this
    ·cases h
   ·cases h
 ·cases h
theorem lenA_run {x : AV} {x' : Value} {n : Nat} (h : lenA x = some n) (hv : VR ρ x x') : (Builtin.lenOf x').run P w = .ok n w := by
 unfold lenA at h
 split at h <;> cases h
 ·cases hv; simp [Builtin.lenOf]
 ·obtain ⟨L, a, cap', rfl, _⟩ := hv.sl_inv; simp [Builtin.lenOf]
theorem store_sound {dst : Option Tmp} {ty : TypeId} {pos : String} {af : Array Edge} {g : Option (Nat × Bool)} {t : TypeId} {n : Nat} (hs : Sim m ρ w) (ht : sizeD P t = some n) {x y : Operand} {p v r : AV} {m' : Mem} (hp : VR ρ p (ev x)) (hv : VR ρ v (ev y))
  (h : aStore n p v m = some (r, m')) : Wrote P ρ m w (execOp ev ⟨dst, .store t x y, ty, pos, af, g⟩) r m' := by
 unfold aStore at h
 split at h
 ·rename_i b o
  simp only [Option.bind_eq_some_iff] at h
  obtain ⟨cells, hc, h⟩ := h
  split at h
  ·rename_i hh
   cases h
   cases hx : ev x <;> rw [hx] at hp <;> cases hp
   rename_i L hρ
   have hcv := hv.cells
   have hl := hcv.length
   obtain ⟨w', g1, g2, g3⟩ := put_cells (P := P) (o := o) hs hρ hc hcv (by omega) (hv.cells_flat hh.2.2)
   refine ⟨.skip, undef, w', ρ, ?_, .inr ⟨rfl, rfl⟩, .mk_tup' (l := []) (cs := #[]) .nil, g2, g3⟩
   simp only [Array.length_toList] at hl
   simp [execOp, hx, Instr.storeAt, Instr.sureAddr, storeVar, run_sizeOf ht, ← hl, hh.1, g1]
  ·cases h
 ·cases h
theorem copy_sound {dst : Option Tmp} {ty : TypeId} {pos : String} {af : Array Edge} {g : Option (Nat × Bool)} {dT sT e : TypeId} {size : Nat} (hs : Sim m ρ w) (hu : P.underlying dT = some (.slice e)) (hsz : sizeD P e = some size)
  {x y : Operand} {d v r : AV} {m' : Mem} (hd : VR ρ d (ev x)) (hv : VR ρ v (ev y))
  (h : aCopy size d v m = some (r, m')) : Wrote P ρ m w (execOp ev ⟨dst, .call ⟨.builtin .copy, #[x, y], #[dT, sT]⟩, ty, pos, af, g⟩) r m' := by
 have hexec : ∀ W, (execOp ev ⟨dst, .call ⟨.builtin .copy, #[x, y], #[dT, sT]⟩, ty, pos, af, g⟩).run P W = ((Builtin.copy_ #[dT, sT] ty #[ev x, ev y]).run P W).andThen fun v w' => .ok (.value v) w' := by
  intro W
  simp [execOp, resolve, invoke, builtin]
 unfold aCopy at h
 simp only [Option.bind_eq_some_iff] at h
 obtain ⟨ln, hln, ld, hld, h⟩ := h
 have hlr := lenA_run (P := P) (w := w) hln hv
 split at h
 ·rename_i hn
  cases h
  refine ⟨.value (.int .i64 0), .int .i64 0, w, ρ, ?_, .inl rfl, .int _ _, hs, .refl _ _ _⟩
  rw [hexec]
  unfold lenA at hld
  split at hld <;> cases hld
  ·cases hxe : ev x <;> rw [hxe] at hd <;> cases hd
   have hf : (Builtin.firstCells size 0 (ev y)).run P w = .ok #[] w := by
    unfold lenA at hln
    split at hln <;> cases hln
    ·cases hye : ev y <;> rw [hye] at hv <;> cases hv; simp [Builtin.firstCells]
    ·obtain ⟨L, a, cap', hye, _⟩ := hv.sl_inv; simp [hye, Builtin.firstCells, loadCells, loadCellsFrom]
   simp [Builtin.copy_, run_underlying hu, run_sizeOf hsz, hlr, hf, goInt]
  ·obtain ⟨L, a, cap', hxe, _⟩ := hd.sl_inv
   have hf : (Builtin.firstCells size 0 (ev y)).run P w = .ok #[] w := by
    unfold lenA at hln
    split at hln <;> cases hln
    ·cases hye : ev y <;> rw [hye] at hv <;> cases hv; simp [Builtin.firstCells]
    ·obtain ⟨L, a, cap', hye, _⟩ := hv.sl_inv; simp [hye, Builtin.firstCells, loadCells, loadCellsFrom]
   have hm0 : min ln _ = 0 := hn
   simp [Builtin.copy_, run_underlying hu, run_sizeOf hsz, hlr, hxe, hm0, hf, goInt, storeCells]
 ·rename_i hn
  simp only [Option.bind_eq_some_iff] at h
  obtain ⟨new, hnew, h⟩ := h
  split at h
  ·rename_i b o len cap s
   simp only [Option.bind_eq_some_iff] at h
   obtain ⟨cells, hc, h⟩ := h
   split at h
   ·rename_i hle
    cases h
    simp only [lenA, Option.some.injEq] at hld
    subst hld
    obtain ⟨L, a, cap', hxe, hρ, hlc, hcc, _, haddr, _⟩ := hd.sl_inv
    have hlen : 0 < len := by
     have : Nat.min ln len ≤ len := Nat.min_le_right _ _
     omega
    rw [haddr (by omega)] at hxe
    obtain ⟨cs, c1, c2, hflat, c3, _⟩ := elems_run (P := P) hnew hv hs
    have hl := c2.length
    obtain ⟨w', g1, g2, g3⟩ := put_cells (P := P) hs hρ hc c2 (by rw [hl, c1]; exact hle) hflat
    refine ⟨.value (.int .i64 (Nat.min ln len)), .int .i64 (Nat.min ln len), w', ρ, ?_, .inl rfl, .int _ _, g2, g3⟩
    rw [hexec]
    have : (Builtin.firstCells size (min ln len) (ev y)).run P w = .ok cs.toArray w := c3
    simp [Builtin.copy_, run_underlying hu, run_sizeOf hsz, hlr, hxe, this, g1, goInt]
   ·cases h
  ·cases h
end
end Go.Adm
end
section
namespace Go.Adm
section
variable {P : Program} {ρ : LMap} {ev : Operand → Value} {m : Mem} {w : World}
theorem append_room {st xt ty e e' : TypeId} {size : Nat} (hu : P.underlying st = some (.slice e)) (hxu : P.underlying xt = some (.slice e')) (hsz : sizeD P e = some size)
  {base : Option Addr} {len cap n : Nat} {x' : Value} {new : List Value} (hl : (Builtin.lenOf x').run P w = .ok n w) (hf : (Builtin.firstCells size n x').run P w = .ok new.toArray w) (hle : len + n ≤ cap) {w' : World}
  (hst : ∀ a, base = some a → (storeCells (a.add (len * size)) new).run P w = .ok () w') (hb : base = none → w' = w) :
  (Builtin.append_ #[st, xt] ty #[.slice base len cap, x']).run P w = .ok (.slice base (len + n) cap) w' := by
 cases base with
 | none =>
  obtain rfl := hb rfl
  simp [Builtin.append_, run_underlying hu, run_underlying hxu, run_sizeOf hsz, hl, hle, hf]
 | some a => simp [Builtin.append_, run_underlying hu, run_underlying hxu, run_sizeOf hsz, hl, hle, hf, hst a rfl]
theorem append_grow {st xt ty e e' : TypeId} {i : TypeInfo} {z : Value} (hu : P.underlying st = some (.slice e)) (hxu : P.underlying xt = some (.slice e')) (hi : P.info? e = some i) (hz : i.zero = some z)
  {base : Option Addr} {len cap n : Nat} {x' : Value} {old new : List Value} (hl : (Builtin.lenOf x').run P w = .ok n w)
  (hfo : ∀ W : World, W.heap = w.heap → (Builtin.firstCells i.size len (.slice base len cap)).run P W = .ok old.toArray W)
  (hf : ∀ W : World, W.heap = w.heap → (Builtin.firstCells i.size n x').run P W = .ok new.toArray W) (hg : cap < len + n) (hb : (len + n) * i.bytes ≤ 1099511627776) (hc : len + n ≤ 1099511627776) :
  (Builtin.append_ #[st, xt] ty #[.slice base len cap, x']).run P w = .ok (.slice (some ⟨w.heap.size, 0, none⟩) (len + n) (grownCap w (len + n) cap e))
   (w.drew.alloc (.cells (old.toArray ++ new.toArray ++ Builtin.zeroCells z.cells (grownCap w (len + n) cap e - (len + n))) e)) := by
 have hn : ¬ (len + n ≤ cap) := by omega
 have h63' : ¬ (9223372036854775807 < ((len : Int) + (n : Int))) := by omega
 have hfit := growslice_fits (bytes := i.bytes) hg (by omega)
 have h48' : ¬ (281474976710656 < Builtin.nextslicecap (len + n) cap * i.bytes) := by omega
 have h1 := hf w.drew rfl
 have h2 := hfo w.drew rfl
 simp [Builtin.append_, run_underlying hu, run_underlying hxu, sizeOf, typeInfo, zeroValue, hi, hz, hl, hn, h63', h48', Question.forced, h1, h2, newRow, grownCap]
 congr 2
 apply Array.ext'
 simp [List.append_assoc]
theorem le_grownCap (w : World) (need old : Nat) (e : TypeId) : need ≤ grownCap w need old e := by
 simp only [grownCap, Question.cut]; omega
theorem zeroCells_size (z : Array Value) (n : Nat) : (Builtin.zeroCells z n).size = n * z.size := by simp [Builtin.zeroCells]
theorem Sim.drew (h : Sim m ρ w) : Sim m ρ w.drew := by
 refine ⟨h.lt, fun b L cells r hb hm => ?_, fun b L es c hb hm => ?_, h.apart⟩
 ·exact (h.row b L cells r hb hm).mono (.refl _) rfl
 ·exact (h.map b L es c hb hm).mono (.refl _) rfl
theorem Step.ofDrew {m' : Mem} {ρ' : LMap} {w' : World} (h : Step m m' ρ ρ' w.drew w') : Step m m' ρ ρ' w w' :=
 ⟨h.ab, h.old, h.new, h.os, h.tape, h.output, h.size, h.frame⟩
theorem grown_row {cells : List AV} {cs : List Value} (h : VRL ρ cells cs) (hf : cells.all AV.flat = true) (rest : Array Value) (e : TypeId) (lim : Nat) (hlim : cs.length + rest.size = lim) :
  RowAt ρ (w.alloc (.cells (cs.toArray ++ rest) e)) ⟨w.heap.size, 0, lim⟩ cells false := by
 have hl := h.length
 refine ⟨⟨cs.toArray ++ rest, e, (0, 0), alloc_get w _, by simp; omega, by simp; omega, fun i v hv => ?_, fun _ => .inl rfl⟩, hf⟩
 have hlt := lt_of_get hv
 have hg : (cs.toArray ++ rest)[0 + i]? = some (cs[i]'(by omega)) := by
  rw [Nat.zero_add, Array.getElem?_append_left (by simp; omega)]
  simp [show i < cs.length by omega]
 exact ⟨_, hg, h.get i v _ hv (by simp [show i < cs.length by omega])⟩
theorem Sim.regrow (h : Sim m ρ w) {w' : World} {b : Nat} {L L' : Loc} {cells cells' : List AV} (hb : ρ b = some L) (hm : m[b]? = some (.row cells false)) (hblk : L'.blk = L.blk) (hρ : ρ m.length = none)
  (hrow : RowAt ρ w' L' cells' false) (hw : ∀ B, B ≠ L.blk → w'.heap[B]? = w.heap[B]?) (hs : w'.heap.size = w.heap.size)
  (h1 : w'.os = w.os) (h2 : w'.tape = w.tape) (h3 : w'.output = w.output) :
  Sim (m.set b .dead ++ [.row cells' false]) (upd ρ m.length L') w' ∧ Step m (m.set b .dead ++ [.row cells' false]) ρ (upd ρ m.length L') w w' := by
 have hsub := upd_sub L' hρ
 have hlen : (m.set b Blk.dead).length = m.length := by simp
 have hlt := lt_of_get hm
 have look : ∀ (x : Nat) (k : Blk), x ≠ m.length → (m.set b Blk.dead ++ [.row cells' false])[x]? = some k → k.live = true → x ≠ b ∧ m[x]? = some k := by
  intro x k hx hk hl
  rw [← hlen] at hx
  have := get_append_ne hx hk
  by_cases e : b = x
  ·subst e; rw [List.getElem?_set_self hlt] at this; cases this; cases hl
  ·rw [List.getElem?_set_ne e] at this; exact ⟨Ne.symm e, this⟩
 have self : ∀ (k : Blk), (m.set b Blk.dead ++ [.row cells' false])[m.length]? = some k → k = .row cells' false := by
  intro k hk
  rw [← hlen, get_append_self] at hk
  cases hk; rfl
 have other : ∀ (x : Nat) (X : Loc) (k : Blk), x ≠ b → ρ x = some X → m[x]? = some k → k.live = true → X.blk ≠ L.blk := fun x X k hne hx hk hl =>
  h.apart x b X L k _ hne hx hb hk hm hl rfl (.inr rfl)
 refine ⟨⟨?_, ?_, ?_, ?_⟩, ⟨?_, ?_, ?_, h1, h2, h3, by omega, ?_⟩⟩
 ·intro x X hx
  by_cases e : x = m.length
  ·subst e; rw [upd_same] at hx; cases hx; rw [hs, hblk]; exact h.lt b L hb
  ·rw [upd_ne _ _ e] at hx; rw [hs]; exact h.lt x X hx
 ·intro x X cs r hx hk
  by_cases e : x = m.length
  ·subst e; rw [upd_same] at hx; cases hx
   have := self _ hk
   cases this
   exact hrow.mono hsub rfl
  ·rw [upd_ne _ _ e] at hx
   obtain ⟨g1, g2⟩ := look x _ e hk rfl
   exact (h.row x X cs r hx g2).mono hsub (hw _ (other x X _ g1 hx g2 rfl))
 ·intro x X es c hx hk
  by_cases e : x = m.length
  ·subst e
   have := self _ hk
   cases this
  ·rw [upd_ne _ _ e] at hx
   obtain ⟨g1, g2⟩ := look x _ e hk rfl
   exact (h.map x X es c hx g2).mono hsub (hw _ (other x X _ g1 hx g2 rfl))
 ·intro b1 b2 L1 L2 k1 k2 hne g1 g2 e1 e2 l1 l2 f
  by_cases c1 : b1 = m.length
  ·subst c1
   rw [upd_same] at g1; cases g1
   have hne2 : b2 ≠ m.length := Ne.symm hne
   rw [upd_ne _ _ hne2] at g2
   obtain ⟨i1, i2⟩ := look b2 _ hne2 e2 l2
   rw [hblk]
   exact Ne.symm (other b2 L2 _ i1 g2 i2 l2)
  ·rw [upd_ne _ _ c1] at g1
   obtain ⟨i1, i2⟩ := look b1 _ c1 e1 l1
   by_cases c2 : b2 = m.length
   ·subst c2
    rw [upd_same] at g2; cases g2
    rw [hblk]
    exact other b1 L1 _ i1 g1 i2 l1
   ·rw [upd_ne _ _ c2] at g2
    obtain ⟨j1, j2⟩ := look b2 _ c2 e2 l2
    exact h.apart b1 b2 L1 L2 k1 k2 hne g1 g2 i2 j2 l1 l2 f
 ·exact (AStep.set hm rfl (fun l => by cases l)).trans (.push _ _)
 ·intro x hx
  refine upd_ne _ _ ?_
  simp at hx
  omega
 ·intro x X h1 h2 hx
  simp at h2
  obtain rfl : x = m.length := by omega
  rw [upd_same] at hx; cases hx
  exact .inr ⟨b, L, _, hb, hm, rfl, rfl, hblk⟩
 ·intro B hB hno
  exact hw B fun e => hno b L _ hb hm rfl rfl e.symm
theorem Sim.newgrow (h : Sim m ρ w) {d : Mem} (hd : d.length = m.length) (hdead : ∀ (x : Nat) (k : Blk), d[x]? = some k → k.live = true → m[x]? = some k) (hab : AStep m d) (o : Obj) (lim : Nat) (cells' : List AV)
  (hρ : ρ m.length = none) (hrow : RowAt ρ (w.alloc o) ⟨w.heap.size, 0, lim⟩ cells' false) :
  Sim (d ++ [.row cells' false]) (upd ρ m.length ⟨w.heap.size, 0, lim⟩) (w.alloc o) ∧ Step m (d ++ [.row cells' false]) ρ (upd ρ m.length ⟨w.heap.size, 0, lim⟩) w (w.alloc o) := by
 refine ⟨h.put_new o hρ (k := .row cells' false) (by rw [← hd, get_append_self]) (fun x hx y hy hl => hdead x y (get_append_ne (by rw [hd]; exact hx) hy) hl) (fun cells r e => ?_) (fun es c e => by cases e), ?_⟩
 ·cases e; exact hrow.mono (upd_sub _ hρ) rfl
 ·have hp := Step.push (m := d) (ρ := ρ) (w := w) (.row cells' false) o lim
  refine ⟨hab.trans hp.ab, fun x hx => ?_, fun x X h1 h2 hx => ?_, rfl, rfl, rfl, hp.size, fun B hB _ => RowKit.Below.heap_alloc w o B hB⟩
  ·simp only [List.length_append, List.length_singleton, hd] at hx
   exact upd_ne _ _ (by omega)
  ·simp only [List.length_append, List.length_singleton, hd] at h2
   obtain rfl : x = m.length := by omega
   rw [upd_same] at hx; cases hx
   exact .inl (Nat.le_refl _)
theorem append_growZ {st xt ty e : TypeId} {i : TypeInfo} {z : Value} {kk k : IntKind} (hu : P.underlying st = some (.slice e)) (hxu : P.underlying xt = some (.int kk)) (hi : P.info? e = some i) (hz : i.zero = some z) (h0 : 0 < i.size)
  {n : Nat} (hg : 0 < n) (hb : n * i.bytes ≤ 1099511627776) (hc : n ≤ 1099511627776) :
  (Builtin.append_ #[st, xt] ty #[.slice none 0 0, .int k n]).run P w = .ok (.slice (some ⟨w.heap.size, 0, none⟩) n (grownCap w n 0 e))
   (w.drew.alloc (.cells (Builtin.zeroCells z.cells n ++ Builtin.zeroCells z.cells (grownCap w n 0 e - n)) e)) := by
 have hwr : IntKind.i64.wrap (n : Int) = n := by
  have e1 : (2 : Int) ^ IntKind.i64.bits = 18446744073709551616 := by decide
  have e2 : (2 : Int) ^ (IntKind.i64.bits - 1) = 9223372036854775808 := by decide
  unfold IntKind.wrap
  have e3 : (n : Int) % 18446744073709551616 = n := by omega
  simp only [e1, e2, IntKind.signed, e3, Bool.true_and, decide_eq_true_eq]
  rw [if_neg (by omega)]
 have hn0 : ¬ ((n : Int) < 0) := by omega
 have hbb : ¬ ((n : Int) * (i.bytes : Int) > 281474976710656) := by omega
 have hn : ¬ (n ≤ 0) := by omega
 have hfit := growslice_fits (need := n) (old := 0) (bytes := i.bytes) (by omega) (by omega)
 have h48' : ¬ (281474976710656 < Builtin.nextslicecap n 0 * i.bytes) := by omega
 have hns : ¬ (n * i.size = 0) := by rw [Nat.mul_eq_zero]; omega
 have h63 : ¬ (9223372036854775807 < (n : Int)) := by omega
 simp [Builtin.append_, run_underlying hu, run_underlying hxu, sizeOf, typeInfo, zeroValue, hi, hz, asInt, asIntOf, hwr, hn0, hbb, h63, h48', hns, Question.forced, newRow, grownCap, Builtin.firstCells]
 omega
theorem appendZ_sound {dst : Option Tmp} {ty : TypeId} {pos : String} {af : Array Edge} {g : Option (Nat × Bool)} {st xt e : TypeId} {kk : IntKind} {bytes : Nat} {z : List AV} (hs : Sim m ρ w)
  (hu : P.underlying st = some (.slice e)) (hxu : P.underlying xt = some (.int kk)) (hsz : sizeD P e = some z.length) (hby : bytesD P e = some bytes) (hz : zeroD P e = some z) (h0 : 0 < z.length)
  {x y : Operand} {s v r : AV} {m' : Mem} (hsv : VR ρ s (ev x)) (hv : VR ρ v (ev y)) (hfresh : Fresh m m' ρ)
  (h : aAppendZ z bytes s v m = some (r, m')) : Wrote P ρ m w (execOp ev ⟨dst, .call ⟨.builtin .append, #[x, y], #[st, xt]⟩, ty, pos, af, g⟩) r m' := by
 have hexec : ∀ W, (execOp ev ⟨dst, .call ⟨.builtin .append, #[x, y], #[st, xt]⟩, ty, pos, af, g⟩).run P W = ((Builtin.append_ #[st, xt] ty #[ev x, ev y]).run P W).andThen fun v w' => .ok (.value v) w' := by
  intro W
  simp [execOp, resolve, invoke, builtin]
 have hzc : ∃ i zv, P.info? e = some i ∧ i.zero = some zv ∧ ofCells zv.cells.toList = some z := by
  unfold zeroD at hz
  simp only [Option.bind_eq_some_iff] at hz
  obtain ⟨i, hi, zv, hzv, hzc⟩ := hz
  exact ⟨i, zv, hi, hzv, hzc⟩
 obtain ⟨i, zv, hi, hzv, hzc⟩ := hzc
 have hzl : VRL ρ z zv.cells.toList := ofCells_VRL hzc
 have hzs := hzl.length
 simp only [Array.length_toList] at hzs
 have hisz : i.size = z.length := by simpa [sizeD, hi] using hsz
 have hiby : i.bytes = bytes := by simpa [bytesD, hi] using hby
 unfold aAppendZ at h
 split at h
 ·rename_i k n
  split at h
  ·rename_i hh
   cases h
   cases hxe : ev x <;> rw [hxe] at hsv <;> cases hsv
   cases hye : ev y <;> rw [hye] at hv <;> cases hv
   obtain ⟨n, rfl⟩ := Int.eq_ofNat_of_zero_le (show 0 ≤ n by omega)
   simp only [Int.toNat_natCast] at hfresh ⊢
   have hb : n * bytes ≤ 1099511627776 := by have := hh.2.1; omega
   have hfr : ρ m.length = none := hfresh _ (Nat.le_refl _) (by simp)
   have hr := append_growZ (P := P) (w := w) (ty := ty) (k := k) hu hxu hi hzv (by omega) (n := n) (by omega) (by rw [hiby]; exact hb) (by omega)
   have hgc := le_grownCap w n 0 e
   have hzr := rep_VRL (ρ := ρ) hzl h0 n
   have hrow := grown_row (w := w.drew) hzr (rep_flat (ofCells_flat hzc) n) (Builtin.zeroCells zv.cells (grownCap w n 0 e - n)) e (grownCap w n 0 e * z.length) (by
    rw [zeroCells_size, ← hzr.length, rep_length, ← hzs, ← Nat.add_mul]; congr 1; omega)
   obtain ⟨g1, g2⟩ := hs.drew.newgrow (d := m) rfl (fun _ _ h _ => h) (.refl m) _ _ _ hfr hrow
   refine ⟨.value (.slice (some ⟨w.heap.size, 0, none⟩) n (grownCap w n 0 e)), .slice (some ⟨w.heap.size, 0, none⟩) n (grownCap w n 0 e), _, _, ?_, .inl rfl, ?_, g1, g2.ofDrew⟩
   ·rw [hexec, hxe, hye, hr]
    simp only [Result.andThen, Builtin.zeroCells, Array.toArray_toList]
   ·refine .mk_sl (upd_same _ _ _) (Nat.le_refl _) hgc (fun h => absurd h (by omega)) (fun _ => rfl) (fun _ _ => ?_)
    simp
  ·cases h
 ·cases h
theorem append_sound {dst : Option Tmp} {ty : TypeId} {pos : String} {af : Array Edge} {g : Option (Nat × Bool)} {st xt e e' : TypeId} {size bytes : Nat} {z : List AV} (hs : Sim m ρ w)
  (hu : P.underlying st = some (.slice e)) (hxu : P.underlying xt = some (.slice e')) (hsz : sizeD P e = some size) (hby : bytesD P e = some bytes) (hz : zeroD P e = some z) (hzl : z.length = size) (h0 : 0 < size)
  {x y : Operand} {s v r : AV} {m' : Mem} (hsv : VR ρ s (ev x)) (hv : VR ρ v (ev y)) (hfresh : Fresh m m' ρ)
  (h : aAppend size bytes s v m = some (r, m')) : Wrote P ρ m w (execOp ev ⟨dst, .call ⟨.builtin .append, #[x, y], #[st, xt]⟩, ty, pos, af, g⟩) r m' := by
 have hexec : ∀ W, (execOp ev ⟨dst, .call ⟨.builtin .append, #[x, y], #[st, xt]⟩, ty, pos, af, g⟩).run P W = ((Builtin.append_ #[st, xt] ty #[ev x, ev y]).run P W).andThen fun v w' => .ok (.value v) w' := by
  intro W
  simp [execOp, resolve, invoke, builtin]
 unfold zeroD at hz
 simp only [Option.bind_eq_some_iff] at hz
 obtain ⟨i, hi, zv, hzv, hzc⟩ := hz
 have hzs := (ofCells_VRL (ρ := ρ) hzc).length
 simp only [Array.length_toList] at hzs
 have hisz : i.size = size := by simpa [sizeD, hi] using hsz
 have hiby : i.bytes = bytes := by simpa [bytesD, hi] using hby
 unfold aAppend at h
 simp only [Option.bind_eq_some_iff] at h
 obtain ⟨n, hn, h⟩ := h
 have hlr := lenA_run (P := P) (w := w) hn hv
 split at h
 ·rename_i hn0
  subst hn0
  split at h
  ·rename_i hls
   cases h
   obtain ⟨ls, hls⟩ := Option.isSome_iff_exists.1 hls
   have hf : (Builtin.firstCells size 0 (ev y)).run P w = .ok (([] : List Value).toArray) w := by
    unfold lenA at hn
    split at hn <;> cases hn
    ·cases hye : ev y <;> rw [hye] at hv <;> cases hv; simp [Builtin.firstCells]
    ·obtain ⟨L, a, cap', hye, _⟩ := hv.sl_inv; simp [hye, Builtin.firstCells, loadCells, loadCellsFrom]
   refine ⟨.value (ev x), ev x, w, ρ, ?_, .inl rfl, hsv, hs, .refl _ _ _⟩
   rw [hexec]
   unfold lenA at hls
   split at hls <;> cases hls
   ·cases hxe : ev x <;> rw [hxe] at hsv <;> cases hsv
    rw [append_room hu hxu hsz hlr hf (Nat.le_refl 0) (w' := w) (fun a h => by cases h) (fun _ => rfl)]
    rfl
   ·obtain ⟨L, a, cap', hxe, _, hlc, hcc, _⟩ := hsv.sl_inv
    rw [hxe, append_room hu hxu hsz hlr hf (by omega) (w' := w) (fun a h => rfl) (fun _ => rfl)]
    rfl
  ·cases h
 ·rename_i hn0
  simp only [Option.bind_eq_some_iff] at h
  obtain ⟨new, hnew, h⟩ := h
  obtain ⟨cs, c1, c2, c3, c4, c5⟩ := elems_run (P := P) hnew hv hs
  have hcl := c2.length
  split at h
  ·split at h
   ·rename_i hsmall
    cases h
    cases hxe : ev x <;> rw [hxe] at hsv <;> cases hsv
    have hfr : ρ m.length = none := hfresh _ (Nat.le_refl _) (by simp)
    have hr := append_grow (P := P) (w := w) (ty := ty) hu hxu hi hzv (base := none) (len := 0) (cap := 0) (old := []) hlr (fun W _ => by simp [Builtin.firstCells])
     (fun W hW => by rw [hisz]; exact c5 W hW) (by omega) (by rw [hiby, Nat.zero_add]; exact hsmall.1) (by omega)
    simp only [Nat.zero_add] at hr
    have hgc := le_grownCap w n 0 e
    have hrow := grown_row (w := w.drew) c2 c3 (Builtin.zeroCells zv.cells (grownCap w n 0 e - n)) e (grownCap w n 0 e * size) (by
     rw [zeroCells_size, ← hzs, hzl, c1, ← Nat.add_mul]; congr 1; omega)
    obtain ⟨g1, g2⟩ := hs.drew.newgrow (d := m) rfl (fun _ _ h _ => h) (.refl m) _ _ _ hfr hrow
    refine ⟨.value (.slice (some ⟨w.heap.size, 0, none⟩) n (grownCap w n 0 e)), .slice (some ⟨w.heap.size, 0, none⟩) n (grownCap w n 0 e), _, _, ?_, .inl rfl, ?_, g1, g2.ofDrew⟩
    ·rw [hexec, hxe, hr]
     simp
    ·refine .mk_sl (upd_same _ _ _) (Nat.le_refl _) hgc (fun h => absurd h (by omega)) (fun _ => rfl) (fun _ _ => ?_)
     simp
   ·cases h
  ·rename_i b o len cap sz
   obtain ⟨L, a, cap', hxe, hρ, hlc, hcc, hex, haddr, hlim⟩ := hsv.sl_inv
   split at h
   ·rename_i hle
    simp only [Option.bind_eq_some_iff] at h
    obtain ⟨cells, hc, h⟩ := h
    split at h
    ·rename_i hh
     cases h
     have ha := haddr (by omega)
     obtain ⟨w', g1, g2, g3⟩ := put_cells (P := P) (o := o + len * size) hs hρ hc c2 (by
      rw [hcl, c1]; have := hh.1; rw [Nat.add_mul] at this; omega) c3
     refine ⟨.value (.slice (some a) (len + n) cap'), .slice (some a) (len + n) cap', w', ρ, ?_, .inl rfl, ?_, g2, g3⟩
     ·rw [hexec, hxe, append_room hu hxu hsz hlr c4 (by omega) (w' := w') (fun a' h => by cases h; rw [ha, addr_add]; exact g1) (fun h => by cases h)]
      rfl
     ·exact .mk_sl hρ hle hcc hex haddr hlim
    ·cases h
   ·rename_i hgt
    split at h
    ·rename_i hsmall
     simp only [Option.bind_eq_some_iff] at h
     obtain ⟨old, hold, h⟩ := h
     obtain ⟨os, o1, o2, o3, o4, o5⟩ := elems_run (P := P) hold hsv hs
     have hol := o2.length
     have grow : ∀ (d : Mem), d.length = m.length → (∀ (x : Nat) (k : Blk), d[x]? = some k → k.live = true → m[x]? = some k) → AStep m d → m' = d ++ [.row (old ++ new) false] → cap' < len + n →
       r = .sl m.length 0 (len + n) (len + n) size → Wrote P ρ m w (execOp ev ⟨dst, .call ⟨.builtin .append, #[x, y], #[st, xt]⟩, ty, pos, af, g⟩) r m' := by
      intro d hd hdead hab hm' hlt hr
      subst hm' hr
      have hfr : ρ m.length = none := hfresh _ (Nat.le_refl _) (by simp [hd])
      have hr := append_grow (P := P) (w := w) (ty := ty) hu hxu hi hzv (base := some a) (len := len) (cap := cap') hlr (fun W hW => by rw [hisz, ← hxe]; exact o5 W hW)
       (fun W hW => by rw [hisz]; exact c5 W hW) hlt (by rw [hiby]; omega) (by omega)
      have hgc := le_grownCap w (len + n) cap' e
      have hrow := grown_row (w := w.drew) (o2.append c2) (by rw [List.all_append, o3, c3]; rfl) (Builtin.zeroCells zv.cells (grownCap w (len + n) cap' e - (len + n))) e (grownCap w (len + n) cap' e * size) (by
       rw [zeroCells_size, ← hzs, hzl, List.length_append, o1, c1, ← Nat.add_mul, ← Nat.add_mul]; congr 1; omega)
      obtain ⟨g1, g2⟩ := hs.drew.newgrow (d := d) hd hdead hab _ _ _ hfr hrow
      refine ⟨.value (.slice (some ⟨w.heap.size, 0, none⟩) (len + n) (grownCap w (len + n) cap' e)), .slice (some ⟨w.heap.size, 0, none⟩) (len + n) (grownCap w (len + n) cap' e), _, _, ?_, .inl rfl, ?_, g1, g2.ofDrew⟩
      ·rw [hexec, hxe, hr]
       simp
      ·refine .mk_sl (upd_same _ _ _) (Nat.le_refl _) hgc (fun h => absurd h (by omega)) (fun _ => rfl) (fun _ _ => ?_)
       simp
     split at h
     ·cases h
      refine grow m rfl (fun _ _ h _ => h) (.refl m) rfl ?_ rfl
      rw [hex rfl]; omega
     ·rename_i sz'
      simp only [Option.bind_eq_some_iff] at h
      obtain ⟨cells, hc, h⟩ := h
      split at h
      ·rename_i hh
       cases h
       obtain ⟨hend, hszs⟩ := hh
       have hcm := own_some hc
       have hltm := lt_of_get hcm
       by_cases hin : len + n ≤ cap'
       ·-- in place
        have ha := haddr (by omega)
        have hli := hlim (by omega) (by omega)
        rw [hszs] at hli
        obtain ⟨C, te, fz, q1, q2, q3, q4, q5⟩ := (hs.row b L cells false hρ hcm).ex
        have hprod : (len + n) * size ≤ cap' * size := Nat.mul_le_mul_right _ hin
        have hprod2 : len * size + n * size = (len + n) * size := (Nat.add_mul _ _ _).symm
        have hprod3 : len * size ≤ cap * size := Nat.mul_le_mul_right _ hlc
        obtain ⟨C', w', g1, g2, g3, g4, g5, g6, g7, g8⟩ := run_storeCells_row (P := P) (B := L.blk) (off := L.base + (o + len * size)) cs 0 C w q1 (by omega) (fun j hj => (q5 rfl).no j (by omega)) (c2.oneCells c3)
        have hfr : ρ m.length = none := hfresh _ (Nat.le_refl _) (by simp)
        have hCs : C'.size = C.size := by
         have := congrArg List.length g3
         simp at this
         omega
        have hold' : old = (cells.drop o).take (len * size) := by
         unfold elems at hold
         simp only at hold
         split at hold
         ·rename_i hz0
          cases hold
          rw [hz0]; simp
         ·rw [if_pos (Nat.le_refl _)] at hold
          simp only [rowOf, hcm, Option.bind_some] at hold
          split at hold <;> cases hold
          rfl
        have hrow : RowAt ρ w' ⟨L.blk, L.base + o, L.lim⟩ (old ++ new) false := by
         refine ⟨⟨C', te, fz, g2, by simp; omega, by simp; omega, fun k v hv => ?_, fun _ => q5 rfl⟩, by rw [List.all_append, o3, c3]; rfl⟩
         have hk := lt_of_get hv
         simp only [List.length_append] at hk
         have hcat : C'[L.base + o + k]? = (C.toList.take (L.base + (o + len * size)) ++ (cs ++ C.toList.drop (L.base + (o + len * size) + cs.length)))[L.base + o + k]? := by
          rw [← Array.getElem?_toList, g3]
          simp only [Nat.add_zero, List.append_assoc]
         show ∃ v', C'[L.base + o + k]? = some v' ∧ VR ρ v v'
         rw [hcat]
         have hm1 : (C.toList.take (L.base + (o + len * size))).length = L.base + (o + len * size) := by
          rw [List.length_take, Array.length_toList, Nat.min_eq_left (by omega)]
         by_cases hk2 : k < len * size
         ·rw [List.getElem?_append_left (by omega), List.getElem?_take_of_lt (by omega), Array.getElem?_toList]
          rw [List.getElem?_append_left (by omega), hold', List.getElem?_take_of_lt hk2, List.getElem?_drop] at hv
          have := q4 _ _ hv
          rwa [show L.base + (o + k) = L.base + o + k by omega] at this
         ·rw [List.getElem?_append_right (by omega), hm1, List.getElem?_append_left (by omega)]
          rw [List.getElem?_append_right (by omega)] at hv
          have e1 : L.base + o + k - (L.base + (o + len * size)) = k - old.length := by omega
          rw [e1]
          have hlt2 := lt_of_get hv
          exact ⟨cs[k - old.length]'(by omega), by simp [show k - old.length < cs.length by omega], c2.get _ _ _ hv (by simp [show k - old.length < cs.length by omega])⟩
        obtain ⟨s1, s2⟩ := hs.regrow hρ hcm (L' := ⟨L.blk, L.base + o, L.lim⟩) rfl hfr hrow g4 g5 g6 g7 g8
        refine ⟨.value (.slice (some a) (len + n) cap'), .slice (some a) (len + n) cap', w', _, ?_, .inl rfl, ?_, s1, s2⟩
        ·rw [hexec, hxe, append_room hu hxu hsz hlr c4 hin (w' := w') (fun a' h => by cases h; rw [ha, addr_add]; exact g1) (fun h => by cases h)]
         rfl
        ·refine .mk_sl (upd_same _ _ _) (Nat.le_refl _) hin (fun h => absurd h (by omega)) (fun _ => by rw [ha]; simp [Loc.addr]) (fun _ _ => ?_)
         simp; omega
       ·refine grow (m.set b .dead) (by simp) (fun x k hx hl => ?_) (.set hcm rfl (fun l => by cases l)) rfl (by omega) rfl
        by_cases e : b = x
        ·subst e; rw [List.getElem?_set_self hltm] at hx; cases hx; cases hl
        ·rw [List.getElem?_set_ne e] at hx; exact hx
      ·cases h
    ·cases h
  ·cases h
theorem aFind_some {k : MK} {key : AV} : ∀ (es : List (AV × AV × Nat)) (i0 i : Nat) (v : AV), aFind k key es i0 = some (some (i, v)) → i0 ≤ i ∧ ∃ e, es[i - i0]? = some e ∧ mapEq k key e.1 = some true ∧ v = e.2.1 := by
 intro es
 induction es with
 | nil => intro i0 i v h; simp [aFind] at h
 | cons e es ih =>
  intro i0 i v h
  simp only [aFind, Option.bind_eq_some_iff] at h
  obtain ⟨q, hq, h⟩ := h
  cases q with
  | true =>
   simp only [Option.some.injEq, Prod.mk.injEq] at h
   obtain ⟨rfl, rfl⟩ := h
   exact ⟨Nat.le_refl _, e, by simp, hq, rfl⟩
  | false =>
   obtain ⟨h1, e', h2, h3, h4⟩ := ih (i0 + 1) i v h
   refine ⟨by omega, e', ?_, h3, h4⟩
   rw [show i - i0 = (i - (i0 + 1)) + 1 by omega]
   simpa using h2
theorem sameBits_ck {c : CK} {a b : AV} {x y : Value} {n : Nat} (h : aEqCk c a b = some true) (ha : VR ρ a x) (hb : VR ρ b y) : Instr.sameBits n y x = true := by
 unfold aEqCk at h
 split at h
 ·simp only [Option.some.injEq, beq_iff_eq] at h; subst h; cases ha; cases hb; simp [Instr.sameBits]
 ·split at h
  ·rename_i hk; subst hk
   simp only [Option.some.injEq, beq_iff_eq] at h; subst h; cases ha; cases hb; simp [Instr.sameBits]
  ·cases h
 ·simp only [Option.some.injEq] at h
  have := (MapKept.bytes_beq _ _).mp h
  subst this; cases ha; cases hb; simp [Instr.sameBits, (MapKept.bytes_beq _ _).mpr rfl]
 ·cases h
theorem sameBits_cells : ∀ {ks : List CK} {as bs : List AV} {xs ys : List Value} {n : Nat}, aEqCells ks as bs = some true → VRL ρ as xs → VRL ρ bs ys → xs.length = ys.length ∧ ((ys.zip xs).all fun (y, x) => Instr.sameBits n y x) = true := by
 intro ks
 induction ks with
 | nil => intro as bs xs ys n h h1 h2; cases h1 <;> cases h2 <;> simp_all [aEqCells]
 | cons c ks ih =>
  intro as bs xs ys n h h1 h2
  cases h1 with
  | nil => simp [aEqCells] at h
  | cons a1 h1 =>
   cases h2 with
   | nil => simp [aEqCells] at h
   | cons a2 h2 =>
    simp only [aEqCells, Option.bind_eq_some_iff, Option.map_eq_some_iff] at h
    obtain ⟨u, hu, v, hv, hw⟩ := h
    simp only [Bool.and_eq_true] at hw
    obtain ⟨rfl, rfl⟩ := hw
    obtain ⟨g1, g2⟩ := ih (n := n) hv h1 h2
    exact ⟨by simp [g1], by simp only [List.zip_cons_cons, List.all_cons, sameBits_ck hu a1 a2, g2, Bool.and_self]⟩
theorem sameBits_key {k : MK} {a b : AV} {x y : Value} (h : mapEq k a b = some true) (ha : VR ρ a x) (hb : VR ρ b y) : Instr.sameBits 10000 y x = true := by
 unfold mapEq at h
 split at h
 ·exact sameBits_ck h ha hb
 ·obtain ⟨cs, rfl, hcs⟩ := ha.agg_inv
  obtain ⟨ds, rfl, hds⟩ := hb.agg_inv
  obtain ⟨g1, g2⟩ := sameBits_cells (n := 9999) h hcs hds
  unfold Instr.sameBits
  rw [Bool.and_eq_true]
  refine ⟨?_, g2⟩
  rw [beq_iff_eq, ← Array.length_toList, ← Array.length_toList, g1]
 ·cases h
theorem mapSet_sound {dst : Option Tmp} {ty : TypeId} {pos : String} {af : Array Edge} {g : Option (Nat × Bool)} {t kt et : TypeId} {k : MK} (hs : Sim m ρ w) (hu : P.underlying t = some (.map kt et)) (hk : mkeyD P kt = some k) {x i y : Operand}
  {vs : List AV} {r : AV} {m' : Mem} (hv : VRL ρ vs ([x, i, y].map ev)) (h : aMapSet k m vs = some (r, m')) : Wrote P ρ m w (execOp ev ⟨dst, .mapUpdate t x i y, ty, pos, af, g⟩) r m' := by
 obtain ⟨a, key, val, rfl, h1, h2, h3⟩ := VRL.three hv
 unfold aMapSet at h
 split at h
 ·rename_i b key' val' he
  simp only [List.cons.injEq, and_true] at he
  obtain ⟨rfl, rfl, rfl⟩ := he
  split at h
  ·rename_i hfit
   simp only [Option.bind_eq_some_iff, Option.map_eq_some_iff, Prod.mk.injEq] at h
   obtain ⟨p, hp, q, hq, rfl, rfl⟩ := h
   cases hxe : ev x <;> rw [hxe] at h1 <;> cases h1
   rename_i L hρ
   have hm := mapOf_some hp
   obtain ⟨es', hb, hes, hbn⟩ := hs.esRel hρ hp
   have hck := checkKey_run (w := w) hk hfit h2 false
   have hlt := hs.lt b L hρ
   have hmb := lt_of_get hm
   have hexec : (execOp ev ⟨dst, .mapUpdate t x i y, ty, pos, af, g⟩).run P w = ((Instr.mapUpdate t (ev x) (ev i) (ev y)).run P w).andThen fun _ w' => .ok .skip w' := by simp [execOp]
   simp only [aPutMap, Option.map_eq_some_iff] at hq
   obtain ⟨r, hr, rfl⟩ := hq
   obtain ⟨r', hrun, hrel⟩ := findKey_run (w := w) hk hfit h2 hes hr
   have fin : ∀ (E : Array MapEntry) (c : Nat) (es2 : List (AV × AV × Nat)), MapAt ρ { w with heap := w.heap.setIfInBounds L.blk (.map E c) } L es2 c →
     (Instr.mapUpdate t (ev x) (ev i) (ev y)).run P w = .ok () { w with heap := w.heap.setIfInBounds L.blk (.map E c) } → Wrote P ρ m w (execOp ev ⟨dst, .mapUpdate t x i y, ty, pos, af, g⟩) (.tup []) (m.set b (.map es2 c)) := by
    intro E c es2 hma hru
    have hw : ∀ B, B ≠ L.blk → (w.heap.setIfInBounds L.blk (.map E c))[B]? = w.heap[B]? := fun B hB => by simp [Ne.symm hB]
    refine ⟨.skip, undef, _, ρ, by rw [hexec, hru]; rfl, .inr ⟨rfl, rfl⟩, .mk_tup' (l := []) (cs := #[]) .nil, hs.changeM hρ hm (List.getElem?_set_self hmb) (fun x hx => List.getElem?_set_ne (Ne.symm hx)) hma hw (by simp), ?_⟩
    exact Step.change hρ hm rfl rfl rfl hw (by simp) rfl rfl rfl
   cases r with
   | none =>
    cases r' with
    | some q => exact hrel.elim
    | none =>
     refine fin (es'.push { key := ev i, val := ev y, born := p.2 }) (p.2 + 1) _ ⟨es'.push { key := ev i, val := ev y, born := p.2 }, by simp [hlt], by have := hes.1; simp at this; simp [this], fun j e e' he he' => ?_⟩ ?_
     ·have hl := hes.1
      simp only [Array.length_toList] at hl
      by_cases hj : j < p.1.length
      ·rw [List.getElem?_append_left hj] at he
       rw [Array.getElem?_push, if_neg (by omega)] at he'
       have := hes.2 j e e' he (by rw [Array.getElem?_toList]; exact he')
       exact ⟨this.1, this.2, hbn j e e' he he'⟩
      ·rw [List.getElem?_append_right (by omega)] at he
       obtain hj0 : j = p.1.length := by have := lt_of_get he; simp at this; omega
       subst hj0
       simp only [Nat.sub_self, List.getElem?_cons_zero, Option.some.injEq] at he
       subst he
       rw [Array.getElem?_push, if_pos hl] at he'
       cases he'
       exact ⟨h2, h3, rfl⟩
     ·simp [Instr.mapUpdate, run_underlying hu, hxe, MapKept.run_getObj_map hb, hck, hrun, MapKept.run_setObj_map _ hb]
   | some q =>
    obtain ⟨j, v0⟩ := q
    cases r' with
    | none => exact hrel.elim
    | some q' =>
     obtain ⟨j', v'⟩ := q'
     obtain ⟨rfl, hvr⟩ := hrel
     obtain ⟨-, e, he, heq, rfl⟩ := aFind_some _ _ _ _ hr
     rw [Nat.sub_zero] at he
     have hl := hes.1
     simp only [Array.length_toList] at hl
     have hje := lt_of_get he
     have hje' : es'[j]? = some (es'[j]'(by omega)) := Array.getElem?_eq_getElem _
     obtain ⟨ek, ev'⟩ := hes.2 j e _ he (by rw [Array.getElem?_toList]; exact hje')
     have hsb := sameBits_key heq h2 ek
     have hstay : (Instr.keyThatStays (es'[j]'(by omega)).key (ev i)).run P w = .ok (ev i) w := by simp [Instr.keyThatStays, hsb]
     refine fin (es'.modify j fun e => { e with key := ev i, val := ev y }) p.2 _ ⟨es'.modify j fun e => { e with key := ev i, val := ev y }, by simp [hlt], by simp [hl], fun x e1 e2 g1 g2 => ?_⟩ ?_
     ·by_cases hx : j = x
      ·subst hx
       rw [List.getElem?_set_self hje] at g1
       cases g1
       rw [Array.getElem?_modify, if_pos rfl, hje'] at g2
       cases g2
       refine ⟨h2, h3, ?_⟩
       simp only [he, Option.map_some, Option.getD_some]
       exact hbn j e _ he hje'
      ·rw [List.getElem?_set_ne hx] at g1
       rw [Array.getElem?_modify, if_neg hx] at g2
       have := hes.2 x e1 e2 g1 (by rw [Array.getElem?_toList]; exact g2)
       exact ⟨this.1, this.2, hbn x e1 e2 g1 g2⟩
     ·simp [Instr.mapUpdate, run_underlying hu, hxe, MapKept.run_getObj_map hb, hck, hrun, MapKept.run_setObj_map _ hb, hje', hstay]
  ·cases h
 ·cases h
theorem mapDel_sound {dst : Option Tmp} {ty : TypeId} {pos : String} {af : Array Edge} {g : Option (Nat × Bool)} {t t2 kt et : TypeId} {k : MK} (hs : Sim m ρ w) (hu : P.underlying t = some (.map kt et)) (hk : mkeyD P kt = some k) {x i : Operand}
  {a key r : AV} {m' : Mem} (h1 : VR ρ a (ev x)) (h2 : VR ρ key (ev i)) (h : aMapDel k m [a, key] = some (r, m')) : Wrote P ρ m w (execOp ev ⟨dst, .call ⟨.builtin .delete, #[x, i], #[t, t2]⟩, ty, pos, af, g⟩) r m' := by
 have hexec : ∀ W, (execOp ev ⟨dst, .call ⟨.builtin .delete, #[x, i], #[t, t2]⟩, ty, pos, af, g⟩).run P W = ((Builtin.delete_ #[t, t2] ty #[ev x, ev i]).run P W).andThen fun v w' => .ok (.value v) w' := by
  intro W
  simp [execOp, resolve, invoke, builtin]
 unfold aMapDel at h
 split at h
 ·rename_i b key' he
  simp only [List.cons.injEq, and_true] at he
  obtain ⟨rfl, rfl⟩ := he
  split at h
  ·rename_i hfit
   simp only [Option.bind_eq_some_iff, Option.map_eq_some_iff, Prod.mk.injEq] at h
   obtain ⟨p, hp, r, hr, rfl, rfl⟩ := h
   cases hxe : ev x <;> rw [hxe] at h1 <;> cases h1
   rename_i L hρ
   have hm := mapOf_some hp
   obtain ⟨es', hb, hes, hbn⟩ := hs.esRel hρ hp
   have hck := checkKey_run (w := w) hk hfit h2 es'.isEmpty
   have hlt := hs.lt b L hρ
   have hmb := lt_of_get hm
   obtain ⟨r', hrun, hrel⟩ := findKey_run (w := w) hk hfit h2 hes hr
   have fin : ∀ (E : Array MapEntry) (c : Nat) (es2 : List (AV × AV × Nat)), MapAt ρ { w with heap := w.heap.setIfInBounds L.blk (.map E c) } L es2 c →
     (Builtin.delete_ #[t, t2] ty #[ev x, ev i]).run P w = .ok (.tuple #[]) { w with heap := w.heap.setIfInBounds L.blk (.map E c) } → Wrote P ρ m w (execOp ev ⟨dst, .call ⟨.builtin .delete, #[x, i], #[t, t2]⟩, ty, pos, af, g⟩) (.tup []) (m.set b (.map es2 c)) := by
    intro E c es2 hma hru
    have hw : ∀ B, B ≠ L.blk → (w.heap.setIfInBounds L.blk (.map E c))[B]? = w.heap[B]? := fun B hB => by simp [Ne.symm hB]
    refine ⟨.value (.tuple #[]), .tuple #[], _, ρ, by rw [hexec, hru]; rfl, .inl rfl, .mk_tup' (l := []) (cs := #[]) .nil, hs.changeM hρ hm (List.getElem?_set_self hmb) (fun x hx => List.getElem?_set_ne (Ne.symm hx)) hma hw (by simp), ?_⟩
    exact Step.change hρ hm rfl rfl rfl hw (by simp) rfl rfl rfl
   cases r with
   | none =>
    cases r' with
    | some q => exact hrel.elim
    | none =>
     refine fin es' p.2 _ ⟨es', by simp [hlt], hes.1, fun j e e' he he' => ?_⟩ ?_
     ·have := hes.2 j e e' he (by rw [Array.getElem?_toList]; exact he')
      exact ⟨this.1, this.2, hbn j e e' he he'⟩
     ·simp [Builtin.delete_, run_underlying hu, hxe, MapKept.run_getObj_map hb, hck, hrun, MapKept.run_setObj_map _ hb]
   | some q =>
    obtain ⟨j, v0⟩ := q
    cases r' with
    | none => exact hrel.elim
    | some q' =>
     obtain ⟨j', v'⟩ := q'
     obtain ⟨rfl, hvr⟩ := hrel
     have hl := hes.1
     simp only [Array.length_toList] at hl
     refine fin (es'.eraseIdxIfInBounds j) p.2 _ ⟨es'.eraseIdxIfInBounds j, by simp [hlt], ?_, fun x e1 e2 g1 g2 => ?_⟩ ?_
     ·simp only [delMap]
      rw [← Array.length_toList, Array.toList_eraseIdxIfInBounds, List.length_eraseIdx, List.length_eraseIdx, Array.length_toList, hl]
     ·rw [← Array.getElem?_toList, Array.toList_eraseIdxIfInBounds, List.getElem?_eraseIdx] at g2
      simp only [delMap, List.getElem?_eraseIdx] at g1
      split at g1
      ·rename_i hlt2
       rw [if_pos hlt2] at g2
       have := hes.2 x e1 e2 g1 g2
       exact ⟨this.1, this.2, hbn x e1 e2 g1 (by rw [← Array.getElem?_toList]; exact g2)⟩
      ·rename_i hlt2
       rw [if_neg hlt2] at g2
       have := hes.2 (x + 1) e1 e2 g1 g2
       exact ⟨this.1, this.2, hbn (x + 1) e1 e2 g1 (by rw [← Array.getElem?_toList]; exact g2)⟩
     ·simp [Builtin.delete_, run_underlying hu, hxe, MapKept.run_getObj_map hb, hck, hrun, MapKept.run_setObj_map _ hb]
  ·cases h
 ·cases h
theorem mapClr_sound {dst : Option Tmp} {ty : TypeId} {pos : String} {af : Array Edge} {g : Option (Nat × Bool)} {t kt et : TypeId} (hs : Sim m ρ w) (hu : P.underlying t = some (.map kt et)) {x : Operand}
  {a r : AV} {m' : Mem} (h1 : VR ρ a (ev x)) (h : aMapClr m [a] = some (r, m')) : Wrote P ρ m w (execOp ev ⟨dst, .call ⟨.builtin .clear, #[x], #[t]⟩, ty, pos, af, g⟩) r m' := by
 have hexec : ∀ W, (execOp ev ⟨dst, .call ⟨.builtin .clear, #[x], #[t]⟩, ty, pos, af, g⟩).run P W = ((Builtin.clear_ #[t] ty #[ev x]).run P W).andThen fun v w' => .ok (.value v) w' := by
  intro W
  simp [execOp, resolve, invoke, builtin]
 unfold aMapClr at h
 split at h
 ·rename_i b he
  simp only [List.cons.injEq, and_true] at he
  subst he
  simp only [Option.map_eq_some_iff, Prod.mk.injEq] at h
  obtain ⟨p, hp, rfl, rfl⟩ := h
  cases hxe : ev x <;> rw [hxe] at h1 <;> cases h1
  rename_i L hρ
  have hm := mapOf_some hp
  obtain ⟨es', hb, hes, hbn⟩ := hs.esRel hρ hp
  have hlt := hs.lt b L hρ
  have hmb := lt_of_get hm
  have hw : ∀ B, B ≠ L.blk → (w.heap.setIfInBounds L.blk (.map #[] p.2))[B]? = w.heap[B]? := fun B hB => by simp [Ne.symm hB]
  have hru : (Builtin.clear_ #[t] ty #[ev x]).run P w = .ok (.tuple #[]) { w with heap := w.heap.setIfInBounds L.blk (.map #[] p.2) } := by
   simp [Builtin.clear_, run_underlying hu, hxe, MapKept.run_getObj_map hb, MapKept.run_setObj_map _ hb]
  refine ⟨.value (.tuple #[]), .tuple #[], _, ρ, by rw [hexec, hru]; rfl, .inl rfl, .mk_tup' (l := []) (cs := #[]) .nil, hs.changeM hρ hm (List.getElem?_set_self hmb) (fun x hx => List.getElem?_set_ne (Ne.symm hx)) ⟨#[], by simp [hlt], by simp, fun j e e' he => by simp at he⟩ hw (by simp), ?_⟩
  exact Step.change hρ hm rfl rfl rfl hw (by simp) rfl rfl rfl
 ·cases h
theorem write_sound {o : Oper} {k : AK} {xs : List Operand} {vs : List AV} {v : AV} {m' : Mem} (hc : ckOp P o.op = some (k, xs)) (hk : k.cls = .write) (ha : aW k vs m = some (v, m'))
  (hv : VRL ρ vs (xs.map ev)) (hs : Sim m ρ w) (hf : Fresh m m' ρ) : Wrote P ρ m w (execOp ev o) v m' := by
 have hcls := ck_cls hc ⟨(by rintro rfl; cases hk), (by rintro rfl; cases hk), (by rintro rfl; cases hk), by rintro rfl; cases hk⟩
 rw [hk] at hcls
 obtain ⟨dst, op, ty, pos, af, g⟩ := o
 cases op
 case store t a x =>
  simp only [ckOp, Option.map_eq_some_iff] at hc
  obtain ⟨n, hn, hc⟩ := hc
  cases hc
  obtain ⟨p, q, rfl, h1, h2⟩ := hv.map2
  exact store_sound hs hn h1 h2 ha
 case mapUpdate t x i y =>
  simp only [ckOp] at hc
  split at hc
  ·rename_i kt et hu
   simp only [Option.map_eq_some_iff] at hc
   obtain ⟨k', hk', hc⟩ := hc
   cases hc
   exact mapSet_sound hs hu hk' hv ha
  ·cases hc
 case call c =>
  obtain ⟨callee, args, at_⟩ := c
  cases callee with
  | value f => simp [opCls] at hcls
  | invoke r n => simp [opCls] at hcls
  | builtin b =>
   cases b <;> simp [opCls] at hcls
   case append =>
    simp only [ckOp] at hc
    split at hc
    ·rename_i st xt s x hat hax
     split at hc
     ·rename_i e e' hu hxu
      simp only [Option.bind_eq_some_iff] at hc
      obtain ⟨z, hz, b, hb, hc⟩ := hc
      split at hc
      ·rename_i hh
       cases hc
       obtain rfl : at_ = #[st, xt] := by apply Array.ext'; simpa using hat
       obtain rfl : args = #[s, x] := by apply Array.ext'; simpa using hax
       obtain ⟨p, q, rfl, h1, h2⟩ := hv.map2
       exact append_sound hs hu hxu hh.1 hb hz rfl hh.2 h1 h2 hf ha
      ·cases hc
     ·rename_i e kk hu hxu
      simp only [Option.bind_eq_some_iff] at hc
      obtain ⟨z, hz, b, hb, hc⟩ := hc
      split at hc
      ·rename_i hh
       cases hc
       obtain rfl : at_ = #[st, xt] := by apply Array.ext'; simpa using hat
       obtain rfl : args = #[s, x] := by apply Array.ext'; simpa using hax
       obtain ⟨p, q, rfl, h1, h2⟩ := hv.map2
       exact appendZ_sound hs hu hxu hh.1 hb hz hh.2 h1 h2 hf ha
      ·cases hc
     ·cases hc
    ·cases hc
   case copy =>
    simp only [ckOp] at hc
    split at hc
    ·rename_i st xt s x hat hax
     split at hc
     ·rename_i e hu
      simp only [Option.bind_eq_some_iff] at hc
      obtain ⟨z, hz, hc⟩ := hc
      split at hc
      ·rename_i hh
       cases hc
       obtain rfl : at_ = #[st, xt] := by apply Array.ext'; simpa using hat
       obtain rfl : args = #[s, x] := by apply Array.ext'; simpa using hax
       obtain ⟨p, q, rfl, h1, h2⟩ := hv.map2
       exact copy_sound hs hu hz h1 h2 ha
      ·cases hc
     ·cases hc
    ·cases hc
   case delete =>
    simp only [ckOp] at hc
    split at hc
    ·rename_i mt t2 x i hat hax
     split at hc
     ·rename_i kt et hu
      simp only [Option.map_eq_some_iff] at hc
      obtain ⟨k', hk', hc⟩ := hc
      cases hc
      obtain rfl : at_ = #[mt, t2] := by apply Array.ext'; simpa using hat
      obtain rfl : args = #[x, i] := by apply Array.ext'; simpa using hax
      obtain ⟨p, q, rfl, h1, h2⟩ := hv.map2
      exact mapDel_sound hs hu hk' h1 h2 ha
     ·cases hc
    ·cases hc
   case clear =>
    simp only [ckOp] at hc
    split at hc
    ·rename_i mt x hat hax
     split at hc
     ·rename_i kt et hu
      cases hc
      obtain rfl : at_ = #[mt] := by apply Array.ext'; simpa using hat
      obtain rfl : args = #[x] := by apply Array.ext'; simpa using hax
      obtain ⟨p, rfl, h1⟩ := hv.map1
      exact mapClr_sound hs hu h1 ha
     ·cases hc
    ·cases hc
 all_goals (simp [opCls] at hcls)
end
end Go.Adm
end
section
namespace Go.Adm
def undefA : AV := .tup []
structure AOper where
 dst : Option Nat
 k : AK
 xs : List AX
 g : Option (Nat × Bool)
 lo : Nat
 hi : Nat
inductive ACode where
 | skip
 | ops (ks : List Nat) (l : List AOper)
 | drawn (ks : List Nat) (l : List AOper)
 | seq (a b : ACode)
 | cond (c : AX) (a b : ACode)
 | block (id : Nat) (a : ACode)
 | loop (ks : List Nat) (a : ACode)
 | exit (id : Nat)
 | ret
def ACode.bare : ACode → ACode
 | .skip => .skip
 | .ops _ l => .ops [] l
 | .drawn _ l => .drawn [] l
 | .seq a b => .seq a.bare b.bare
 | .cond c a b => .cond c a.bare b.bare
 | .block id a => .block id a.bare
 | .loop _ a => .loop [] a.bare
 | .exit id => .exit id
 | .ret => .ret
abbrev AFr := List (Nat × AV)
def AFr.get : AFr → Nat → Option AV
 | [], _ => none
 | (i, v) :: r, n => if i = n then some v else AFr.get r n
def AFr.set : AFr → Nat → AV → AFr
 | [], n, v => [(n, v)]
 | (i, u) :: r, n, v => if i = n then (n, v) :: r else (i, u) :: AFr.set r n v
def AFr.put (t : AFr) (d : Option Nat) (v : AV) : AFr :=
 match d with
 | some n => t.set n v
 | none => t
theorem AFr.get_set (t : AFr) (n : Nat) (v : AV) (i : Nat) : (t.set n v).get i = if n = i then some v else t.get i := by
 induction t with
 | nil => simp [AFr.set, AFr.get]
 | cons p t ih =>
  obtain ⟨j, u⟩ := p
  simp only [AFr.set]
  split
  ·rename_i h; subst h
   simp only [AFr.get]
   split <;> rfl
  ·rename_i h
   simp only [AFr.get, ih]
   split
   ·rename_i h2; subst h2
    rw [if_neg (fun e => h e.symm)]
   ·rfl
def AX.eval (t : AFr) : AX → Option AV
 | .t n => t.get n
 | .c v => some v
def evalAll (t : AFr) : List AX → Option (List AV)
 | [] => some []
 | x :: r => (x.eval t).bind fun v => (evalAll t r).map (v :: ·)
structure FR (n : Nat) (ρ : LMap) (t : AFr) (tmps : Array Value) : Prop where
 size : n ≤ tmps.size
 glob : Glob ρ
 at_ : ∀ i v, t.get i = some v → VR ρ v (tmps.getD i undef)
theorem FR.mono {n : Nat} {ρ ρ' : LMap} {t : AFr} {tmps : Array Value} (h : FR n ρ t tmps) (hs : Sub ρ ρ') : FR n ρ' t tmps := ⟨h.size, h.glob.mono hs, fun i v e => (h.at_ i v e).mono hs⟩
theorem getD_set (tmps : Array Value) (d i : Nat) (v : Value) (h : d < tmps.size) : (tmps.setIfInBounds d v).getD i undef = if d = i then v else tmps.getD i undef := by
 simp only [Array.getD_eq_getD_getElem?, Array.getElem?_setIfInBounds]
 split
 ·rename_i e; subst e; simp_all
 ·rfl
theorem FR.put {n : Nat} {ρ : LMap} {t : AFr} {a : Act} (h : FR n ρ t a.tmps) {d : Option Nat} (hd : ∀ x, d = some x → x < n) {v : AV} {v' : Value} (hv : VR ρ v v') :
  FR n ρ (t.put d v) (a.put d v').tmps := by
 cases d with
 | none => exact h
 | some x =>
  have hx := hd x rfl
  have hs := h.size
  refine ⟨by simp [Act.put]; exact hs, h.glob, fun i u hu => ?_⟩
  simp only [AFr.put, AFr.get_set] at hu
  simp only [Act.put]
  rw [getD_set _ _ _ _ (by omega)]
  split at hu
  ·cases hu; rename_i e; rw [if_pos e]; exact hv
  ·rename_i e; rw [if_neg e]; exact h.at_ i u hu
section
variable (P : Program)
def dstOk (n : Nat) : Option Nat → Bool
 | none => true
 | some d => decide (d < n)
def ckGuard (n : Nat) (ops : List Oper) : Option (Nat × Bool) → Option (Option (Nat × Bool))
 | none => some none
 | some (j, want) => match ops[j]? with
  | some o => o.dst.bind fun d => if d < n then some (some (d, want)) else none
  | none => none
def ckOper (n : Nat) (ops : List Oper) (o : Oper) (lo hi : Nat) : Option AOper :=
 (ckOp P o.op).bind fun p => (ckXs p.2).bind fun xs => (ckGuard n ops o.guard).bind fun g => if dstOk n o.dst then some ⟨o.dst, p.1, xs, g, lo, hi⟩ else none
def ckOpers (n : Nat) (ops : List Oper) : List Oper → Option (List AOper)
 | [] => some []
 | o :: r => (ckOper P n ops o 0 0).bind fun a => (ckOpers n ops r).map (a :: ·)
end
def Callable (P : Program) (f : FuncId) : Prop := ∃ fn, P.funcs[f]? = some fn ∧ (fn.name == "runtime.NumGoroutine") = false ∧ fn.body.isNone = false
structure Eval (P : Program) (f : FuncId) (args : List AV) (m : Mem) (r : AV) (m' : Mem) : Prop where
 callable : Callable P f
 ab : AStep m m'
 to_ : ∀ (ρ : LMap) (w : World) (cargs : Array Value), Sim m ρ w → Fresh m m' ρ → Glob ρ → VRL ρ args cargs.toList →
  Calls P f cargs w fun e w' => ∃ r' ρ', e = .returned r' ∧ VR ρ' r r' ∧ Sim m' ρ' w' ∧ Step m m' ρ ρ' w w'
inductive OpTo (P : Program) : AK → List AV → Mem → AV → Mem → Prop where
 | pure {k : AK} {vs : List AV} {m : Mem} {v : AV} : k.cls = .pure → aP k vs = some v → OpTo P k vs m v m
 | read {k : AK} {vs : List AV} {m : Mem} {v : AV} : k.cls = .read → aR k vs m = some v → OpTo P k vs m v m
 | make {k : AK} {vs : List AV} {m : Mem} {b : Blk} {mk : Nat → AV} : k.cls = .make → aA k vs = some (b, mk) → OpTo P k vs m (mk m.length) (m ++ [b])
 | write {k : AK} {vs : List AV} {m : Mem} {v : AV} {m' : Mem} : k.cls = .write → aW k vs m = some (v, m') → OpTo P k vs m v m'
 | call {f : FuncId} {vs : List AV} {m : Mem} {v : AV} {m' : Mem} : Eval P f vs m v m' → OpTo P (.call f) vs m v m'
 | invoke {name : String} {t : TypeId} {f : FuncId} {u : AV} {vs : List AV} {m : Mem} {v : AV} {m' : Mem} : methodD P t name = some f → Eval P f (u :: vs) m v m' → OpTo P (.invoke name) (.iface t u :: vs) m v m'
 | callv {f : FuncId} {fs cs vs : List AV} {m : Mem} {v : AV} {m' : Mem} : Eval P f (fs ++ vs ++ cs) m v m' → OpTo P .callv (.fn (.func f) fs cs :: vs) m v m'
theorem aStore_step {n : Nat} {p v r : AV} {m m' : Mem} (h : aStore n p v m = some (r, m')) : AStep m m' := by
 unfold aStore at h
 split at h
 ·simp only [Option.bind_eq_some_iff] at h
  obtain ⟨cells, hc, h⟩ := h
  split at h <;> cases h
  exact .set (own_some hc) rfl (fun _ => ⟨rfl, rfl⟩)
 ·cases h
theorem aCopy_step {n : Nat} {p v r : AV} {m m' : Mem} (h : aCopy n p v m = some (r, m')) : AStep m m' := by
 unfold aCopy at h
 simp only [Option.bind_eq_some_iff] at h
 obtain ⟨_, _, _, _, h⟩ := h
 split at h
 ·cases h; exact .refl _
 ·simp only [Option.bind_eq_some_iff] at h
  obtain ⟨_, _, h⟩ := h
  split at h
  ·simp only [Option.bind_eq_some_iff] at h
   obtain ⟨cells, hc, h⟩ := h
   split at h <;> cases h
   exact .set (own_some hc) rfl (fun _ => ⟨rfl, rfl⟩)
  ·cases h
theorem aAppend_step {n b : Nat} {p v r : AV} {m m' : Mem} (h : aAppend n b p v m = some (r, m')) : AStep m m' := by
 unfold aAppend at h
 simp only [Option.bind_eq_some_iff] at h
 obtain ⟨_, _, h⟩ := h
 split at h
 ·split at h <;> cases h
  exact .refl _
 ·simp only [Option.bind_eq_some_iff] at h
  obtain ⟨_, _, h⟩ := h
  split at h
  ·split at h <;> cases h
   exact .push _ _
  ·split at h
   ·simp only [Option.bind_eq_some_iff] at h
    obtain ⟨cells, hc, h⟩ := h
    split at h <;> cases h
    exact .set (own_some hc) rfl (fun _ => ⟨rfl, rfl⟩)
   ·split at h
    ·simp only [Option.bind_eq_some_iff] at h
     obtain ⟨_, _, h⟩ := h
     split at h
     ·cases h; exact .push _ _
     ·simp only [Option.bind_eq_some_iff] at h
      obtain ⟨cells, hc, h⟩ := h
      split at h <;> cases h
      exact (AStep.set (own_some hc) rfl (fun l => by cases l)).trans (.push _ _)
    ·cases h
  ·cases h
theorem aAppendZ_step {z : List AV} {b : Nat} {p v r : AV} {m m' : Mem} (h : aAppendZ z b p v m = some (r, m')) : AStep m m' := by
 unfold aAppendZ at h
 split at h
 ·split at h <;> cases h
  exact .push _ _
 ·cases h
theorem aMapSet_step {k : MK} {vs : List AV} {r : AV} {m m' : Mem} (h : aMapSet k m vs = some (r, m')) : AStep m m' := by
 unfold aMapSet at h
 split at h
 ·split at h
  ·simp only [Option.bind_eq_some_iff, Option.map_eq_some_iff, Prod.mk.injEq] at h
   obtain ⟨p, hp, q, hq, rfl, rfl⟩ := h
   exact .set (mapOf_some hp) rfl (fun _ => ⟨rfl, rfl⟩)
  ·cases h
 ·cases h
theorem aMapDel_step {k : MK} {vs : List AV} {r : AV} {m m' : Mem} (h : aMapDel k m vs = some (r, m')) : AStep m m' := by
 unfold aMapDel at h
 split at h
 ·split at h
  ·simp only [Option.bind_eq_some_iff, Option.map_eq_some_iff, Prod.mk.injEq] at h
   obtain ⟨p, hp, q, hq, rfl, rfl⟩ := h
   exact .set (mapOf_some hp) rfl (fun _ => ⟨rfl, rfl⟩)
  ·cases h
 ·cases h
theorem aMapClr_step {vs : List AV} {r : AV} {m m' : Mem} (h : aMapClr m vs = some (r, m')) : AStep m m' := by
 unfold aMapClr at h
 split at h
 ·simp only [Option.map_eq_some_iff, Prod.mk.injEq] at h
  obtain ⟨p, hp, rfl, rfl⟩ := h
  exact .set (mapOf_some hp) rfl (fun _ => ⟨rfl, rfl⟩)
 ·cases h
theorem w2_step {f : AV → AV → Mem → Option (AV × Mem)} {m : Mem} {vs : List AV} {r : AV} {m' : Mem} (h : w2 f m vs = some (r, m')) (hf : ∀ a b, f a b m = some (r, m') → AStep m m') : AStep m m' := by
 unfold w2 at h
 split at h
 ·exact hf _ _ h
 ·cases h
theorem OpTo.astep {P : Program} {k : AK} {vs : List AV} {m : Mem} {v : AV} {m' : Mem} (h : OpTo P k vs m v m') : AStep m m' := by
 cases h with
 | pure => exact .refl _
 | read => exact .refl _
 | make => exact .push _ _
 | write hk h =>
  cases k <;> simp only [AK.cls, reduceCtorEq] at hk
  ·exact aMapSet_step h
  ·exact aMapDel_step h
  ·exact aMapClr_step h
  ·exact w2_step h fun a b => aStore_step
  ·exact w2_step h fun a b => aAppend_step
  ·exact w2_step h fun a b => aAppendZ_step
  ·exact w2_step h fun a b => aCopy_step
 | call h => exact h.ab
 | callv h => exact h.ab
 | invoke _ h => exact h.ab
section
variable {P : Program} {Q : Exit → Act → World → Prop}
theorem eval_ck {n : Nat} {ρ : LMap} {t : AFr} {a : Act} (h : FR n ρ t a.tmps) : ∀ (os : List Operand) (xs : List AX) (vs : List AV), ckXs os = some xs → evalAll t xs = some vs → VRL ρ vs (os.map a.eval) := by
 intro os
 induction os with
 | nil => intro xs vs h1 h2; cases h1; cases h2; exact .nil
 | cons o os ih =>
  intro xs vs h1 h2
  simp only [ckXs, Option.bind_eq_some_iff, Option.map_eq_some_iff] at h1
  obtain ⟨x, hx, xs', hxs, rfl⟩ := h1
  simp only [evalAll, Option.bind_eq_some_iff, Option.map_eq_some_iff] at h2
  obtain ⟨v, hv, vs', hvs, rfl⟩ := h2
  refine .cons ?_ (ih _ _ hxs hvs)
  unfold ckX at hx
  split at hx
  ·cases hx; exact h.at_ _ _ hv
  ·simp only [Option.map_eq_some_iff] at hx
   obtain ⟨c, hc, rfl⟩ := hx
   cases hv
   exact ofConst_VR hc
  ·cases hx; cases hv
   exact .fn rfl rfl (fun i x y h => by simp at h) (fun i x y h => by simp at h)
  ·simp only [Option.map_eq_some_iff] at hx
   obtain ⟨i, hi, rfl⟩ := hx
   cases hv
   have hg := (List.findIdx?_eq_some_iff_getElem.mp hi)
   obtain ⟨hlt, he, _⟩ := hg
   obtain ⟨lim, hρ⟩ := h.glob i _ (List.getElem?_eq_getElem hlt)
   rw [beq_iff_eq.mp he] at hρ
   exact .ptr (L := ⟨_, 0, lim⟩) hρ
theorem run_callFunc {f : FuncId} (h : Callable P f) (args : Array Value) (w : World) : (callFunc f args).run P w = .ok (.enter f args) w := by
 obtain ⟨fn, h1, h2, h3⟩ := h
 have h2' : ¬ fn.name = "runtime.NumGoroutine" := by simpa using h2
 have h3' : ¬ fn.body = none := by
  intro e
  rw [e] at h3
  cases h3
 simp [callFunc, h1, h2', h3']
theorem method_run {t : TypeId} {name : String} {f : FuncId} (h : methodD P t name = some f) (v : Value) (n : Nat) (w : World) : (method (n + 1) t v name).run P w = .ok (f, v) w := by
 unfold methodD at h
 simp only [Option.bind_eq_some_iff] at h
 obtain ⟨i, hi, m, hm, h⟩ := h
 split at h
 ·rename_i hp
  simp only [Option.bind_eq_some_iff] at h
  obtain ⟨⟨f', ptr⟩, hf, h⟩ := h
  have hp' : m.path.toList = [] := by simpa using hp
  have hti : (typeInfo t).run P w = .ok i w := by simp [typeInfo, hi]
  unfold method
  simp only [Sem.run_bind, hti, Result.andThen_ok, hm, hp', follow, Sem.run_pure, hf]
  split at h
  ·rename_i h1 h2
   cases h
   (try simp only at h1)
   subst h1
   simp [receiverAt, run_underlying h2, Place.get]
  ·cases h
  ·rename_i d h1 hd h2
   cases h
   have hd' : ptr = false := hd
   subst hd'
   cases d <;> first | exact (h1 _ rfl).elim | simp [receiverAt, run_underlying h2, Place.get]
  ·cases h
 ·cases h
theorem some_fuel (P : Program) : ∃ n, P.types.size + Made.depth = n + 1 := by
 have : 0 < Made.depth := by decide
 exact ⟨P.types.size + Made.depth - 1, by omega⟩
theorem op_exec {o : Oper} {k : AK} {xs : List Operand} (hc : ckOp P o.op = some (k, xs)) {vs : List AV} {m m' : Mem} {v : AV} (hop : OpTo P k vs m v m') {ρ : LMap} {w : World} {a : Act}
  (hs : Sim m ρ w) (hf : Fresh m m' ρ) (hg : Glob ρ) (hv : VRL ρ vs (xs.map a.eval)) {K : Act → World → Prop}
  (hK : ∀ v' w' ρ', VR ρ' v v' → Sim m' ρ' w' → Step m m' ρ ρ' w w' → K (a.put o.dst v') w') : o.wp P a w K Q := by
 unfold Oper.wp
 cases hop with
 | pure hk ha =>
  obtain ⟨v', h1, h2⟩ := pure_sound hc hk ha hv
  rw [h2 w, Oper.upon_value]
  exact hK _ _ _ h1 hs (.refl _ _ _)
 | read hk ha =>
  obtain ⟨v', w', h1, h2, h3, h4⟩ := read_sound hc hk ha hv hs
  rw [h2, Oper.upon_value]
  exact hK _ _ _ h1 h3 h4
 | make hk ha =>
  rename_i b mk
  by_cases hnm : k = .mkMap
  ·subst hnm
   have hfr : ρ m.length = none := hf _ (Nat.le_refl _) (by simp)
   obtain ⟨rfl, rfl⟩ : b = .map [] 0 ∧ mk = fun id => .map id := by
    simp only [aA, mkMp] at ha
    split at ha
    ·cases ha; exact ⟨rfl, rfl⟩
    ·cases ha
   rw [mkMap_sound hc, Oper.upon_value]
   exact hK _ _ _ (.map (L := ⟨w.heap.size, 0, 0⟩) (upd_same _ _ _)) (hs.put_new (m' := m ++ [.map [] 0]) (id := m.length) (k := .map [] 0) (.map #[] 0) (lim := 0) hfr (by simp) (fun x hx y hy hl => get_append_ne hx hy) (fun cells r h => Blk.noConfusion h)
    (fun es c h => by cases h; exact ⟨#[], alloc_get w _, rfl, fun i e e' h => by simp at h⟩)) (Step.push (.map [] 0) (.map #[] 0) 0)
  obtain ⟨W, cells, ob, lim, v', hW, rfl, h1, h2, h3⟩ := (make_sound (w := w) hc hk hnm ha hv).ex
  rw [h1, Oper.upon_value]
  have hfr : ρ m.length = none := hf _ (Nat.le_refl _) (by simp)
  rcases hW with rfl | rfl
  ·obtain ⟨g1, g2⟩ := hs.newgrow (d := m) rfl (fun _ _ h _ => h) (.refl m) ob lim cells hfr h2
   exact hK _ _ _ (h3 _ _ (upd_same _ _ _)) g1 g2
  ·obtain ⟨g1, g2⟩ := hs.drew.newgrow (d := m) rfl (fun _ _ h _ => h) (.refl m) ob lim cells hfr h2
   exact hK _ _ _ (h3 _ _ (upd_same _ _ _)) g1 g2.ofDrew
 | write hk ha =>
  obtain ⟨nx, v', w', ρ', h1, h2, h3, h4, h5⟩ := write_sound hc hk ha hv hs hf
  rw [h1]
  rcases h2 with rfl | ⟨rfl, rfl⟩
  ·rw [Oper.upon_value]; exact hK _ _ _ h3 h4 h5
  ·rw [Oper.upon_skip]; exact hK _ _ _ h3 h4 h5
 | call he =>
  rename_i f
  obtain ⟨dst, op, ty, pos, af, g⟩ := o
  have hcls := ck_cls hc ⟨by simp, by simp, by simp, by simp⟩
  cases op <;> simp [opCls, AK.cls] at hcls
  rename_i c
  obtain ⟨callee, args, at_⟩ := c
  cases callee with
  | builtin b => cases b <;> simp at hcls
  | invoke r n => simp [ckOp] at hc
  | value x =>
   cases x <;> simp [ckOp] at hc
   rename_i f'
   obtain ⟨rfl, rfl⟩ := hc
   have hrun : (execOp a.eval ⟨dst, .call ⟨.value (.func f'), args, at_⟩, ty, pos, af, g⟩).run P w = .ok (.enter f' (args.map a.eval)) w := by
    simp [execOp, resolve, Act.eval, Deferred.ofValue, invoke, run_callFunc he.callable]
   rw [hrun, Oper.upon_enter]
   refine (he.to_ ρ w _ hs hf hg (by simpa using hv)).mono fun e w' h => ?_
   obtain ⟨r', ρ', rfl, h1, h2, h3⟩ := h
   exact hK _ _ _ h1 h2 h3
 | callv he =>
  rename_i f fs cs vs
  obtain ⟨dst, op, ty, pos, af, g⟩ := o
  have hcls := ck_cls hc ⟨by simp, by simp, by simp, by simp⟩
  cases op <;> simp [opCls, AK.cls] at hcls
  rename_i c
  obtain ⟨callee, args, at_⟩ := c
  cases callee with
  | builtin b => cases b <;> simp at hcls
  | invoke r n => simp [ckOp] at hc
  | value x =>
   have hx : xs = x :: args.toList := by
    cases x <;> simp [ckOp] at hc <;> exact hc.symm
   subst hx
   cases hv with
   | cons hfv hv =>
    have hfv0 := hfv
    generalize hxe : a.eval x = fv at hfv
    cases hfv with
    | fn l1 l2 a1 a2 =>
     rename_i fs' cs'
     have hrun : (execOp a.eval ⟨dst, .call ⟨.value x, args, at_⟩, ty, pos, af, g⟩).run P w = .ok (.enter f (fs' ++ args.map a.eval ++ cs')) w := by
      simp [execOp, resolve, hxe, Deferred.ofValue, invoke, run_callFunc he.callable]
     rw [hrun, Oper.upon_enter]
     have b1 : VRL ρ fs fs'.toList := .of _ _ (by simpa using l1) fun i x y h k => a1 i x y h (by simpa using k)
     have b2 : VRL ρ cs cs'.toList := .of _ _ (by simpa using l2) fun i x y h k => a2 i x y h (by simpa using k)
     refine (he.to_ ρ w _ hs hf hg (by simpa using (b1.append hv).append b2)).mono fun e w' h => ?_
     obtain ⟨r', ρ', rfl, h1, h2, h3⟩ := h
     exact hK _ _ _ h1 h2 h3
 | invoke hm he =>
  rename_i name t f u vs
  obtain ⟨dst, op, ty, pos, af, g⟩ := o
  have hcls := ck_cls hc ⟨by simp, by simp, by simp, by simp⟩
  cases op <;> simp [opCls, AK.cls] at hcls
  rename_i c
  obtain ⟨callee, args, at_⟩ := c
  cases callee with
  | builtin b => cases b <;> simp at hcls
  | value x => cases x <;> simp [ckOp] at hc
  | invoke r n =>
   simp only [ckOp, Option.some.injEq, Prod.mk.injEq, AK.invoke.injEq] at hc
   obtain ⟨rfl, rfl⟩ := hc
   cases hv with
   | cons hfv hv =>
    generalize hxe : a.eval r = fv at hfv
    cases hfv with
    | iface hu =>
     rename_i u'
     obtain ⟨k, hk⟩ := some_fuel P
     have hrun : (execOp a.eval ⟨dst, .call ⟨.invoke r n, args, at_⟩, ty, pos, af, g⟩).run P w = .ok (.enter f (#[u'] ++ args.map a.eval)) w := by
      have h0 : (#[Value.iface t u'] ++ args.map a.eval)[0]? = some (Value.iface t u') := by rw [Array.getElem?_append_left (by simp)]; rfl
      have h1 : (#[Value.iface t u'] ++ args.map a.eval).extract 1 (#[Value.iface t u'] ++ args.map a.eval).size = args.map a.eval := by
       apply Array.ext'
       simp
       exact List.take_of_length_le (by simp)
      simp only [execOp, resolve, hxe, Sem.run_bind, Sem.run_pure, Result.andThen_ok, invoke, h0, h1, callMethod, hk, run_program]
      simp [method_run hm, run_callFunc he.callable]
     rw [hrun, Oper.upon_enter]
     refine (he.to_ ρ w _ hs hf hg (by simpa using VRL.cons hu hv)).mono fun e w' h => ?_
     obtain ⟨r', ρ', rfl, h1, h2, h3⟩ := h
     exact hK _ _ _ h1 h2 h3
end
end Go.Adm
end
section
namespace Go.Adm
def wantedA (g : Option (Nat × Bool)) (t : AFr) : Option Bool :=
 match g with
 | none => some true
 | some (j, want) => match t.get j with
  | some (.bool b) => some (b == want)
  | some (.tup []) => some false
  | _ => none
inductive Local (P : Program) (o : AOper) (t : AFr) (m : Mem) : AV → Mem → Prop where
 | yes {vs : List AV} {v : AV} {m' : Mem} : wantedA o.g t = some true → evalAll t o.xs = some vs → OpTo P o.k vs m v m' → Local P o t m v m'
 | no : wantedA o.g t = some false → Local P o t m undefA m
theorem Local.astep {P : Program} {o : AOper} {t : AFr} {m : Mem} {v : AV} {m' : Mem} (h : Local P o t m v m') : AStep m m' := by
 cases h with
 | yes _ _ h => exact h.astep
 | no => exact .refl _
inductive Seq (P : Program) : List AOper → AFr → Mem → AFr → Mem → Prop where
 | nil {t : AFr} {m : Mem} : Seq P [] t m t m
 | cons {o : AOper} {r : List AOper} {t t' : AFr} {m m1 m' : Mem} {v : AV} : Local P o t m v m1 → Seq P r (t.put o.dst v) m1 t' m' → Seq P (o :: r) t m t' m'
theorem Seq.astep {P : Program} {l : List AOper} {t t' : AFr} {m m' : Mem} (h : Seq P l t m t' m') : AStep m m' := by
 induction h with
 | nil => exact .refl _
 | cons h _ ih => exact h.astep.trans ih
section
variable {P : Program} {n : Nat}
theorem wanted_ck {ops : Array Oper} {o : Oper} {g : Option (Nat × Bool)} (hg : ckGuard n ops.toList o.guard = some g) {t : AFr} {b : Bool} (hw : wantedA g t = some b) {ρ : LMap} {tmps : Array Value} (hf : FR n ρ t tmps) :
  Region.wanted o (yielded ops tmps) = b := by
 unfold ckGuard at hg
 unfold Region.wanted
 split at hg
 ·rename_i h
  cases hg
  simp only [wantedA, Option.some.injEq] at hw
  rw [h]; exact hw
 ·rename_i j want h
  rw [h]
  split at hg
  ·rename_i oj hj
   simp only [Option.bind_eq_some_iff] at hg
   obtain ⟨d, hd, hg⟩ := hg
   split at hg
   ·rename_i hdn
    cases hg
    have hs := hf.size
    have hj' : ops[j]? = some oj := by simpa using hj
    have hdt : (d : Nat) < tmps.size := Nat.lt_of_lt_of_le hdn hs
    have hval : tmps[d]? = some (tmps.getD d undef) := by
     simp [hdt]
    simp only [wantedA] at hw
    show (yielded ops tmps j == some want) = b
    have hy : yielded ops tmps j = (match tmps.getD d undef with | .bool b => some b | _ => none) := by
     simp only [yielded, hj', Option.bind_some, hd, hval]
     cases tmps.getD d undef <;> rfl
    split at hw
    ·rename_i b' hb
     cases hw
     have hv := hf.at_ _ _ hb
     rw [hy]
     generalize tmps.getD d undef = q at hv
     cases hv
     cases b' <;> cases want <;> rfl
    ·rename_i hb
     cases hw
     have hv := hf.at_ _ _ hb
     rw [hy]
     generalize tmps.getD d undef = q at hv
     obtain ⟨cs, rfl, _⟩ := hv.tup_inv
     rfl
    ·cases hw
   ·cases hg
  ·cases hg
 
theorem ckOper_spec {ops : List Oper} {o : Oper} {lo hi : Nat} {ao : AOper} (h : ckOper P n ops o lo hi = some ao) :
  ao.dst = o.dst ∧ (∀ d, o.dst = some d → d < n) ∧ ckGuard n ops o.guard = some ao.g ∧ ao.lo = lo ∧ ao.hi = hi ∧ ∃ xs, ckOp P o.op = some (ao.k, xs) ∧ ckXs xs = some ao.xs := by
 unfold ckOper at h
 simp only [Option.bind_eq_some_iff] at h
 obtain ⟨⟨k, xs⟩, h1, ys, h2, g, h3, h⟩ := h
 split at h
 ·rename_i hd
  cases h
  refine ⟨rfl, fun d e => ?_, h3, rfl, rfl, xs, h1, h2⟩
  rw [e] at hd
  simpa [dstOk] using hd
 ·cases h
theorem local_exec {ops : Array Oper} {o : Oper} {i lo hi : Nat} {ao : AOper} (hio : ops[i]? = some o) (hc : ckOper P n ops.toList o lo hi = some ao) {t : AFr} {m m' : Mem} {v : AV} (hl : Local P ao t m v m')
  {ρ : LMap} {w : World} {a : Act} {Q : Exit → Act → World → Prop} (hs : Sim m ρ w) (hf : Fresh m m' ρ) (hr : FR n ρ t a.tmps) {K : Act → World → Prop}
  (hK : ∀ v' w' ρ', VR ρ' v v' → Sim m' ρ' w' → Step m m' ρ ρ' w w' → K (a.put o.dst v') w') : wpOp P ops Q i K a w := by
 obtain ⟨h1, h2, h3, _, _, xs, h4, h5⟩ := ckOper_spec hc
 unfold wpOp
 simp only [hio]
 cases hl with
 | yes hw he hop =>
  rw [wanted_ck h3 hw hr]
  simp only [if_true]
  exact .inl (op_exec h4 hop hs hf hr.glob (eval_ck hr _ _ _ h5 he) hK)
 | no hw =>
  rw [wanted_ck h3 hw hr]
  simp only [Bool.false_eq_true, if_false]
  exact hK undef w ρ (.mk_tup' (l := []) (cs := #[]) .nil) hs (.refl _ _ _)
theorem seq_exec {ops : Array Oper} {Q : Exit → Act → World → Prop} : ∀ (l : List Oper) (al : List AOper) (i : Nat), ops.toList.drop i = l → ckOpers P n ops.toList l = some al → ∀ (t t' : AFr) (m m' : Mem), Seq P al t m t' m' →
  ∀ (ρ : LMap) (w : World) (a : Act), Sim m ρ w → Fresh m m' ρ → FR n ρ t a.tmps → a.defers = [] →
  (∀ a2 w2 ρ', FR n ρ' t' a2.tmps → Sim m' ρ' w2 → Step m m' ρ ρ' w w2 → a2.defers = [] → Q .normal a2 w2) → wpOps P ops Q (List.range' i l.length) a w := by
 intro l
 induction l with
 | nil =>
  intro al i hd hc t t' m m' hseq ρ w a hs hf hr ha hQ
  cases hc
  cases hseq
  exact hQ a w ρ hr hs (.refl _ _ _) ha
 | cons o l ih =>
  intro al i hd hc t t' m m' hseq ρ w a hs hf hr ha hQ
  simp only [ckOpers, Option.bind_eq_some_iff, Option.map_eq_some_iff] at hc
  obtain ⟨ao, hao, al', hal, rfl⟩ := hc
  cases hseq with
  | cons hl hseq =>
   rename_i m1 v
   have hi : ops[i]? = some o := by
    have : (ops.toList.drop i)[0]? = some o := by rw [hd]; rfl
    simpa using this
   have hd' : ops.toList.drop (i + 1) = l := by
    have : (ops.toList.drop i).drop 1 = l := by rw [hd]; rfl
    simpa [List.drop_drop, Nat.add_comm] using this
   rw [List.length_cons, List.range'_succ, wpOps_cons]
   have hast := hl.astep
   have hast2 := hseq.astep
   refine local_exec hi hao hl hs (hf.left hast2.len) hr fun v' w' ρ' hv hs' hst => ?_
   obtain ⟨h1, h2, _⟩ := ckOper_spec hao
   refine ih al' (i + 1) hd' hal _ _ _ _ hseq ρ' w' _ hs' (hst.fresh hast2.len hf) ?_ ?_ fun a2 w2 ρ2 hr2 hs2 hst2 ha2 => hQ a2 w2 ρ2 hr2 hs2 (hst.trans hst2) ha2
   ·have := (hr.mono (hst.sub (hf.left hast2.len))).put (a := a) (d := o.dst) h2 hv
    rw [h1]; exact this
   ·cases hdd : o.dst <;> simp [Act.put, ha]
def Exit.plainA : Exit → Prop
 | .normal => True
 | .exit _ => True
 | .ret => True
 | _ => False
structure ExecS (P : Program) (n : Nat) (c : Code) (t : AFr) (m : Mem) (e : Exit) (t' : AFr) (m' : Mem) : Prop where
 plain : Exit.plainA e
 ab : AStep m m'
 to_ : ∀ (ρ : LMap) (w : World) (a : Act), Sim m ρ w → Fresh m m' ρ → FR n ρ t a.tmps → a.defers = [] →
  c.wp P (fun e2 a2 w2 => e2 = e ∧ a2.defers = [] ∧ ∃ ρ', FR n ρ' t' a2.tmps ∧ Sim m' ρ' w2 ∧ Step m m' ρ ρ' w w2) a w
theorem exec_ops {id : Nat} {ops : Array Oper} {al : List AOper} (hc : ckOpers P n ops.toList ops.toList = some al) {t t' : AFr} {m m' : Mem} (h : Seq P al t m t' m') : ExecS P n (.region id ops false) t m .normal t' m' := by
 refine ⟨trivial, h.astep, fun ρ w a hs hf hr ha => wp_region ?_⟩
 have := seq_exec (P := P) (n := n) (ops := ops) (Q := fun e2 a2 w2 => e2 = .normal ∧ a2.defers = [] ∧ ∃ ρ', FR n ρ' t' a2.tmps ∧ Sim m' ρ' w2 ∧ Step m m' ρ ρ' w w2) ops.toList al 0 rfl hc t t' m m' h ρ w a hs hf hr ha
  fun a2 w2 ρ' h1 h2 h3 h4 => ⟨rfl, h4, ρ', h1, h2, h3⟩
 rw [Array.length_toList, ← List.range_eq_range'] at this
 exact this
theorem ExecS.trans {c d : Code} {t t1 t' : AFr} {m m1 m' : Mem} {e : Exit} (h : ExecS P n c t m .normal t1 m1) (k : ExecS P n d t1 m1 e t' m') : ExecS P n (.seq c d) t m e t' m' := by
 refine ⟨k.plain, h.ab.trans k.ab, fun ρ w a hs hf hr ha => wp_seq ?_⟩
 refine wp_mono (h.to_ ρ w a hs (hf.left k.ab.len) hr ha) fun e2 a2 w2 hq => ?_
 obtain ⟨rfl, hd, ρ1, hr1, hs1, hst⟩ := hq
 refine wp_mono (k.to_ ρ1 w2 a2 hs1 (hst.fresh k.ab.len hf) hr1 hd) fun e3 a3 w3 hq => ?_
 obtain ⟨rfl, hd, ρ2, hr2, hs2, hst2⟩ := hq
 exact ⟨rfl, hd, ρ2, hr2, hs2, hst.trans hst2⟩
theorem ExecS.left {c d : Code} {t t' : AFr} {m m' : Mem} {e : Exit} (h : ExecS P n c t m e t' m') (he : e ≠ .normal) : ExecS P n (.seq c d) t m e t' m' := by
 refine ⟨h.plain, h.ab, fun ρ w a hs hf hr ha => wp_seq ?_⟩
 refine wp_mono (h.to_ ρ w a hs hf hr ha) fun e2 a2 w2 hq => ?_
 obtain ⟨rfl, hq⟩ := hq
 cases e2 <;> first | exact absurd rfl he | exact ⟨rfl, hq⟩
theorem exitTo_length {id : Nat} : ∀ {k k' : List Item}, exitTo id k = some k' → k'.length < k.length := by
 intro k
 induction k with
 | nil => intro k' h; simp [exitTo] at h
 | cons x k ih =>
  intro k' h
  cases x <;> simp only [exitTo] at h
  case inBlock i =>
   split at h
   ·cases h; simp
   ·have := ih h; simp; omega
  all_goals (have := ih h; simp; omega)
theorem Steps.tail {m m1 m2 : Machine} (h : Steps P m m2) (h1 : step P m = .next m1) (hne : m ≠ m2) : Steps P m1 m2 := by
 obtain ⟨k, hk⟩ := h
 cases k with
 | zero => simp only [runN, Stepped.next.injEq] at hk; exact absurd hk hne
 | succ k =>
  simp only [runN, h1] at hk
  exact ⟨k, hk⟩
theorem lone_todo {fr fr' : Frame} {cs cs' : List Frame} {w w' : World} (h : lone fr cs w = lone fr' cs' w') : fr = fr' := by
 simp only [lone, Machine.mk.injEq] at h
 simpa using (congrArg (fun g : Array Goroutine => g.map (·.frame)) h.2.1)
theorem wp_unroll {c : Code} {Q : Exit → Act → World → Prop} {a : Act} {w : World} (hQ : ∀ e a w, Q e a w → Exit.plainA e) (h : c.wp P (Exit.then (fun a' w' => (Code.loop c).wp P Q a' w') Q) a w) : (Code.loop c).wp P Q a w := by
 intro b k cs
 obtain ⟨e, a1, w1, hq, harr⟩ := h b (.inLoop c :: k) cs
 have pass : e ≠ .normal → Q e a1 w1 → ∃ e a' w', Q e a' w' ∧ Arrives P (lone (b.at a (.code (.loop c) :: k)) cs w) b k cs e a' w' := fun hne hq =>
  ⟨e, a1, w1, hq, .of_steps (.one step_loop) (.pass (x := .inLoop c) rfl (fun _ _ => .inl hne) harr)⟩
 cases e with
 | normal =>
  obtain ⟨e2, a2, w2, hq2, harr2⟩ := hq b k cs
  refine ⟨e2, a2, w2, hq2, .of_steps (.one step_loop) (.of_steps harr (.of_steps (.one step_inLoop) ?_))⟩
  have hp := hQ _ _ _ hq2
  cases e2 with
  | normal =>
   refine Steps.tail harr2 step_loop fun e => ?_
   have := congrArg (fun f : Frame => f.todo.length) (lone_todo e)
   simp [Frame.at] at this
  | exit id =>
   intro k' hk
   refine Steps.tail (harr2 k' hk) step_loop fun e => ?_
   have := congrArg (fun f : Frame => f.todo.length) (lone_todo e)
   have h2 := exitTo_length hk
   simp [Frame.at] at this
   omega
  | ret =>
   obtain ⟨todo, ht⟩ := harr2
   refine ⟨todo, Steps.tail ht step_loop fun e => ?_⟩
   have := congrArg (fun f : Frame => match f.mode with | .run => true | _ => false) (lone_todo e)
   simp [Frame.at] at this
  | goto l => exact hp.elim
  | panic ch => exact hp.elim
  | outgrown => exact hp.elim
 | exit id => exact pass (by simp) hq
 | goto l => exact pass (by simp) hq
 | ret => exact pass (by simp) hq
 | panic ch => exact pass (by simp) hq
 | outgrown => exact pass (by simp) hq
theorem ExecS.round {c : Code} {t t1 t' : AFr} {m m1 m' : Mem} {e : Exit} (h : ExecS P n c t m .normal t1 m1) (k : ExecS P n (.loop c) t1 m1 e t' m') : ExecS P n (.loop c) t m e t' m' := by
 refine ⟨k.plain, h.ab.trans k.ab, fun ρ w a hs hf hr ha => wp_unroll (fun e2 a2 w2 hq => hq.1 ▸ k.plain) ?_⟩
 refine wp_mono (h.to_ ρ w a hs (hf.left k.ab.len) hr ha) fun e2 a2 w2 hq => ?_
 obtain ⟨rfl, hd, ρ1, hr1, hs1, hst⟩ := hq
 refine wp_mono (k.to_ ρ1 w2 a2 hs1 (hst.fresh k.ab.len hf) hr1 hd) fun e3 a3 w3 hq => ?_
 obtain ⟨rfl, hd, ρ2, hr2, hs2, hst2⟩ := hq
 exact ⟨rfl, hd, ρ2, hr2, hs2, hst.trans hst2⟩
theorem ExecS.out {c : Code} {t t' : AFr} {m m' : Mem} {e : Exit} (h : ExecS P n c t m e t' m') (he : e ≠ .normal) : ExecS P n (.loop c) t m e t' m' := by
 refine ⟨h.plain, h.ab, fun ρ w a hs hf hr ha => wp_unroll (fun e2 a2 w2 hq => hq.1 ▸ h.plain) ?_⟩
 refine wp_mono (h.to_ ρ w a hs hf hr ha) fun e2 a2 w2 hq => ?_
 obtain ⟨rfl, hq⟩ := hq
 cases e2 <;> first | exact absurd rfl he | exact ⟨rfl, hq⟩
def Exit.leaves (id : Nat) : Exit → Exit
 | .exit i => if i = id then .normal else .exit i
 | e => e
theorem ExecS.block {c : Code} {t t' : AFr} {m m' : Mem} {e : Exit} (id : Nat) (h : ExecS P n c t m e t' m') : ExecS P n (.block id c) t m (Exit.leaves id e) t' m' := by
 refine ⟨?_, h.ab, fun ρ w a hs hf hr ha => wp_block ?_⟩
 ·have := h.plain
  cases e <;> simp only [Exit.leaves] <;> try exact this
  split <;> trivial
 ·refine wp_mono (h.to_ ρ w a hs hf hr ha) fun e2 a2 w2 hq => ?_
  obtain ⟨rfl, hq⟩ := hq
  cases e2 <;> simp only [Exit.inBlock, Exit.leaves]
  case exit i => split <;> first | exact ⟨rfl, hq⟩ | exact ⟨trivial, hq⟩
  all_goals first | exact ⟨rfl, hq⟩ | exact ⟨trivial, hq⟩
end
end Go.Adm
end
section
namespace Go.Adm
def AK.loud (k : AK) : Bool :=
 match k.cls with
 | .write => true
 | .call => true
 | _ => false
def AOper.names (o : AOper) : List Nat :=
 o.dst.toList ++ ((o.xs.filterMap fun | .t n => some n | .c _ => none) ++ (match o.g with | some (j, _) => [j] | none => []))
def edgeMask (o : Oper) (acc : List Nat) : Nat := o.after.toList.foldl (fun s e => if Region.binds .any e then s ||| 2 ^ e.on ||| acc.getD e.on 0 else s) 0
def befs : List Oper → List Nat → List Nat
 | [], acc => acc
 | o :: r, acc => befs r (acc ++ [edgeMask o acc])
def clash (p o : AOper) : Bool :=
 (match p.dst with | some x => o.names.contains x | none => false) || (match o.dst with | some x => p.names.contains x | none => false) || (p.k.loud && o.k.loud)
def okPre (o : AOper) (b : Nat) : List AOper → Nat → Bool
 | [], _ => true
 | p :: r, i => (b.testBit i || !clash p o) && okPre o b r (i + 1)
def okAll : List AOper → List Nat → List AOper → Bool
 | [], _, _ => true
 | o :: r, b :: bs, pre => okPre o b pre 0 && okAll r bs (pre ++ [o])
 | _ :: _, [], _ => false
def edgesOk : List Oper → Nat → Bool
 | [], _ => true
 | o :: r, i => o.after.toList.all (fun e => !Region.binds .any e || decide (e.on < i)) && edgesOk r (i + 1)
def loudsOf : List AOper → List Nat → Nat → List (Nat × Nat)
 | o :: r, b :: bs, i => if o.k.loud then (i, b) :: loudsOf r bs (i + 1) else loudsOf r bs (i + 1)
 | _, _, _ => []
def marked (ls : List (Nat × Nat)) : List AOper → List Nat → Nat → List AOper
 | o :: r, b :: bs, i => { o with lo := (ls.filter fun l => b.testBit l.1).length, hi := (ls.filter fun l => !l.2.testBit i).length } :: marked ls r bs (i + 1)
 | _, _, _ => []
def ckDrawn (P : Program) (n : Nat) (ops : Array Oper) : Option (List AOper) :=
 (ckOpers P n ops.toList ops.toList).bind fun al =>
  let bs := befs ops.toList []
  if edgesOk ops.toList 0 && okAll al bs [] then some (marked (loudsOf al bs 0) al bs 0) else none
def loudIn (l : List AOper) (i : Nat) : Nat := ((l.take i).filter (·.k.loud)).length
def pendOk (q : Nat) : List (Nat × (Mem → Prop)) → Mem → Prop
 | [], _ => True
 | (h, c) :: r, m => (q ≤ h → c m) ∧ pendOk q r m
def pastOk (c : Mem → Prop) : Nat → List Mem → Prop
 | 0, _ => True
 | _ + 1, [] => True
 | k + 1, m :: r => c m ∧ pastOk c k r
inductive DSeq (P : Program) : List AOper → AFr → Mem → List Mem → List (Nat × (Mem → Prop)) → AFr → Mem → Prop where
 | nil {t : AFr} {m : Mem} {past : List Mem} {pend : List (Nat × (Mem → Prop))} : DSeq P [] t m past pend t m
 | no {o : AOper} {r : List AOper} {t t' : AFr} {m m' : Mem} {past : List Mem} {pend : List (Nat × (Mem → Prop))} : wantedA o.g t = some false → (o.k.loud = true → pendOk (past.length + 1) pend m) →
   DSeq P r (t.put o.dst undefA) m (if o.k.loud then m :: past else past) pend t' m' → DSeq P (o :: r) t m past pend t' m'
 | pure {o : AOper} {r : List AOper} {t t' : AFr} {m m' : Mem} {past : List Mem} {pend : List (Nat × (Mem → Prop))} {vs : List AV} {v : AV} : wantedA o.g t = some true → evalAll t o.xs = some vs →
   o.k.cls = .pure → aP o.k vs = some v → DSeq P r (t.put o.dst v) m past pend t' m' → DSeq P (o :: r) t m past pend t' m'
 | read {o : AOper} {r : List AOper} {t t' : AFr} {m m' : Mem} {past : List Mem} {pend : List (Nat × (Mem → Prop))} {vs : List AV} {v : AV} : wantedA o.g t = some true → evalAll t o.xs = some vs →
   o.k.cls = .read → aR o.k vs m = some v → pastOk (fun m1 => aR o.k vs m1 = some v) (past.length - o.lo) past →
   DSeq P r (t.put o.dst v) m past ((o.hi, fun m1 => aR o.k vs m1 = some v) :: pend) t' m' → DSeq P (o :: r) t m past pend t' m'
 | make {o : AOper} {r : List AOper} {t t' : AFr} {m m' : Mem} {past : List Mem} {pend : List (Nat × (Mem → Prop))} {vs : List AV} {b : Blk} {mk : Nat → AV} : wantedA o.g t = some true → evalAll t o.xs = some vs →
   o.k.cls = .make → aA o.k vs = some (b, mk) →
   DSeq P r (t.put o.dst (mk m.length)) (m ++ [b]) past ((o.hi, fun m1 => m1[m.length]? = some b) :: pend) t' m' → DSeq P (o :: r) t m past pend t' m'
 | loud {o : AOper} {r : List AOper} {t t' : AFr} {m m1 m' : Mem} {past : List Mem} {pend : List (Nat × (Mem → Prop))} {vs : List AV} {v : AV} : wantedA o.g t = some true → evalAll t o.xs = some vs →
   o.k.loud = true → OpTo P o.k vs m v m1 → pendOk (past.length + 1) pend m1 →
   DSeq P r (t.put o.dst v) m1 (m :: past) pend t' m' → DSeq P (o :: r) t m past pend t' m'
structure Run (P : Program) (l : List AOper) (q0 : Nat) (past : List Mem) (pend : List (Nat × (Mem → Prop))) (T : Nat → AFr) (M : Nat → Mem) (V : Nat → AV) : Prop where
 step : ∀ (i : Nat) (o : AOper), l[i]? = some o → Local P o (T i) (M i) (V i) (M (i + 1)) ∧ T (i + 1) = (T i).put o.dst (V i)
 readPast : ∀ (i : Nat) (o : AOper) (vs : List AV), l[i]? = some o → o.k.cls = .read → wantedA o.g (T i) = some true → evalAll (T i) o.xs = some vs → ∀ (j : Nat) (m0 : Mem), past[j]? = some m0 → j < past.length - o.lo → aR o.k vs m0 = some (V i)
 readBack : ∀ (i : Nat) (o : AOper) (vs : List AV), l[i]? = some o → o.k.cls = .read → wantedA o.g (T i) = some true → evalAll (T i) o.xs = some vs → ∀ (p : Nat) (x : AOper), l[p]? = some x → x.k.loud = true → p < i → o.lo ≤ q0 + loudIn l p → aR o.k vs (M p) = some (V i)
 readOn : ∀ (i : Nat) (o : AOper) (vs : List AV), l[i]? = some o → o.k.cls = .read → wantedA o.g (T i) = some true → evalAll (T i) o.xs = some vs → ∀ (p : Nat) (x : AOper), l[p]? = some x → x.k.loud = true → i < p → q0 + loudIn l p + 1 ≤ o.hi → aR o.k vs (M (p + 1)) = some (V i)
 makeOn : ∀ (i : Nat) (o : AOper) (b : Blk), l[i]? = some o → o.k.cls = .make → wantedA o.g (T i) = some true → M (i + 1) = M i ++ [b] → ∀ (p : Nat) (x : AOper), l[p]? = some x → x.k.loud = true → i < p → q0 + loudIn l p + 1 ≤ o.hi → (M (p + 1))[(M i).length]? = some b
 pends : ∀ (h : Nat) (c : Mem → Prop), (h, c) ∈ pend → ∀ (p : Nat) (x : AOper), l[p]? = some x → x.k.loud = true → q0 + loudIn l p + 1 ≤ h → c (M (p + 1))
def consF {α : Type} (x : α) (f : Nat → α) : Nat → α
 | 0 => x
 | i + 1 => f i
theorem loudIn_zero (l : List AOper) : loudIn l 0 = 0 := by simp [loudIn]
theorem loudIn_cons (o : AOper) (l : List AOper) (p : Nat) : loudIn (o :: l) (p + 1) = (if o.k.loud then 1 else 0) + loudIn l p := by
 simp only [loudIn, List.take_succ_cons, List.filter_cons]
 split <;> simp [Nat.add_comm]
theorem pastOk_get {c : Mem → Prop} : ∀ (k : Nat) (past : List Mem), pastOk c k past → ∀ (j : Nat) (m0 : Mem), past[j]? = some m0 → j < k → c m0 := by
 intro k
 induction k with
 | zero => intro _ _ j _ _ h; omega
 | succ k ih =>
  intro past h j m0 hj hk
  cases past with
  | nil => simp at hj
  | cons m r =>
   cases j with
   | zero => simp at hj; subst hj; exact h.1
   | succ j => exact ih r h.2 j m0 (by simpa using hj) (by omega)
theorem pendOk_mem {q : Nat} {m : Mem} : ∀ (pend : List (Nat × (Mem → Prop))), pendOk q pend m → ∀ (h : Nat) (c : Mem → Prop), (h, c) ∈ pend → q ≤ h → c m := by
 intro pend
 induction pend with
 | nil => intro _ h c hm; cases hm
 | cons x r ih =>
  obtain ⟨h0, c0⟩ := x
  intro hp h c hm hq
  cases hm with
  | head => exact hp.1 hq
  | tail _ hm => exact ih hp.2 h c hm hq
theorem AK.loud_cls {k : AK} (h : k.loud = true) : k.cls ≠ .read ∧ k.cls ≠ .make ∧ k.cls ≠ .pure := by
 unfold AK.loud at h
 cases hk : k.cls <;> simp_all
section
variable {P : Program}
theorem Run.cons {o : AOper} {r : List AOper} {q0 q1 : Nat} {past past' : List Mem} {pend pend' : List (Nat × (Mem → Prop))} {T : Nat → AFr} {M : Nat → Mem} {V : Nat → AV} {t : AFr} {m : Mem} {v : AV}
  (h : Run P r q1 past' pend' T M V) (hq1 : q1 = q0 + (if o.k.loud then 1 else 0)) (hq0 : q0 = past.length) (hpl : past' = if o.k.loud then m :: past else past) (hpd : ∀ x ∈ pend, x ∈ pend')
  (hl : Local P o t m v (M 0)) (hT : T 0 = t.put o.dst v)
  (hr : ∀ vs, o.k.cls = .read → wantedA o.g t = some true → evalAll t o.xs = some vs → (∀ (j : Nat) (m0 : Mem), past[j]? = some m0 → j < past.length - o.lo → aR o.k vs m0 = some v) ∧ (o.hi, fun m1 => aR o.k vs m1 = some v) ∈ pend')
  (hm : ∀ b, o.k.cls = .make → wantedA o.g t = some true → M 0 = m ++ [b] → (o.hi, fun m1 => m1[m.length]? = some b) ∈ pend')
  (hp : o.k.loud = true → pendOk (past.length + 1) pend (M 0)) :
  Run P (o :: r) q0 past pend (consF t T) (consF m M) (consF v V) := by
 have hlen : ∀ p, q1 + loudIn r p = q0 + loudIn (o :: r) (p + 1) := fun p => by rw [loudIn_cons, hq1]; omega
 refine ⟨?_, ?_, ?_, ?_, ?_, ?_⟩
 ·intro i o' hi
  cases i with
  | zero => simp at hi; subst hi; exact ⟨hl, hT⟩
  | succ i => exact h.step i o' (by simpa using hi)
 ·intro i o' vs hi hc hw he j m0 hj hlt
  cases i with
  | zero => simp at hi; subst hi; exact (hr vs hc hw he).1 j m0 hj hlt
  | succ i =>
   subst hpl
   cases hld : o.k.loud with
   | true => exact h.readPast i o' vs (by simpa using hi) hc hw he (j + 1) m0 (by simpa [hld] using hj) (by simp [hld]; omega)
   | false => exact h.readPast i o' vs (by simpa using hi) hc hw he j m0 (by simpa [hld] using hj) (by simpa [hld] using hlt)
 ·intro i o' vs hi hc hw he p x hp hx hlt hle
  cases i with
  | zero => omega
  | succ i =>
   cases p with
   | zero =>
    simp at hp; subst hp
    have := h.readPast i o' vs (by simpa using hi) hc hw he 0 m (by rw [hpl, hx]; rfl) (by
     rw [loudIn_zero] at hle
     rw [hpl, hx]
     simp only [if_true, List.length_cons]
     omega)
    exact this
   | succ p => exact h.readBack i o' vs (by simpa using hi) hc hw he p x (by simpa using hp) hx (by omega) (by rw [hlen]; exact hle)
 ·intro i o' vs hi hc hw he p x hp hx hlt hle
  cases p with
  | zero => omega
  | succ p =>
   cases i with
   | zero =>
    simp at hi; subst hi
    exact h.pends _ _ (hr vs hc hw he).2 p x (by simpa using hp) hx (by rw [hlen]; exact hle)
   | succ i => exact h.readOn i o' vs (by simpa using hi) hc hw he p x (by simpa using hp) hx (by omega) (by rw [hlen]; exact hle)
 ·intro i o' b hi hc hw he p x hp hx hlt hle
  cases p with
  | zero => omega
  | succ p =>
   cases i with
   | zero =>
    simp at hi; subst hi
    exact h.pends _ _ (hm b hc hw he) p x (by simpa using hp) hx (by rw [hlen]; exact hle)
   | succ i => exact h.makeOn i o' b (by simpa using hi) hc hw he p x (by simpa using hp) hx (by omega) (by rw [hlen]; exact hle)
 ·intro h' c hmem p x hpx hx hle
  cases p with
  | zero =>
   simp at hpx; subst hpx
   rw [loudIn_zero] at hle
   exact pendOk_mem pend (hp hx) h' c hmem (by omega)
  | succ p => exact h.pends _ _ (hpd _ hmem) p x (by simpa using hpx) hx (by rw [hlen]; exact hle)
theorem dseq_run {l : List AOper} {t t' : AFr} {m m' : Mem} {past : List Mem} {pend : List (Nat × (Mem → Prop))} (h : DSeq P l t m past pend t' m') :
  ∃ T M V, T 0 = t ∧ M 0 = m ∧ T l.length = t' ∧ M l.length = m' ∧ Run P l past.length past pend T M V := by
 induction h with
 | nil =>
  rename_i t m past pend
  exact ⟨fun _ => t, fun _ => m, fun _ => undefA, rfl, rfl, rfl, rfl, ⟨fun i o h => by simp at h, fun i o vs h => by simp at h, fun i o vs h => by simp at h, fun i o vs h => by simp at h, fun i o b h => by simp at h, fun _ _ _ p x h => by simp at h⟩⟩
 | no hw hp _ ih =>
  rename_i o r t t' m m' past pend _
  obtain ⟨T, M, V, h1, h2, h3, h4, h5⟩ := ih
  refine ⟨consF t T, consF m M, consF undefA V, rfl, rfl, h3, h4, h5.cons (by split <;> simp) rfl rfl (fun _ h => h) (by rw [h2]; exact .no hw) h1 (fun vs _ h => by rw [hw] at h; cases h) (fun b _ h => by rw [hw] at h; cases h) (fun hl => by rw [h2]; exact hp hl)⟩
 | pure hw he hc ha _ ih =>
  rename_i o r t t' m m' past pend vs v _
  obtain ⟨T, M, V, h1, h2, h3, h4, h5⟩ := ih
  have hnl : o.k.loud = false := by simp [AK.loud, hc]
  refine ⟨consF t T, consF m M, consF v V, rfl, rfl, h3, h4, h5.cons (by simp [hnl]) rfl (by simp [hnl]) (fun _ h => h) (by rw [h2]; exact .yes hw he (.pure hc ha)) h1 (fun vs h => by rw [hc] at h; cases h) (fun b h => by rw [hc] at h; cases h) (fun hl => by rw [hnl] at hl; cases hl)⟩
 | read hw he hc ha hp _ ih =>
  rename_i o r t t' m m' past pend vs v _
  obtain ⟨T, M, V, h1, h2, h3, h4, h5⟩ := ih
  have hnl : o.k.loud = false := by simp [AK.loud, hc]
  refine ⟨consF t T, consF m M, consF v V, rfl, rfl, h3, h4, h5.cons (by simp [hnl]) rfl (by simp [hnl]) (fun _ h => List.mem_cons_of_mem _ h) (by rw [h2]; exact .yes hw he (.read hc ha)) h1 (fun vs' _ _ he' => ?_) (fun b h => by rw [hc] at h; cases h) (fun hl => by rw [hnl] at hl; cases hl)⟩
  rw [he] at he'; cases he'
  exact ⟨fun j m0 hj hlt => pastOk_get _ _ hp j m0 hj hlt, List.mem_cons_self⟩
 | make hw he hc ha _ ih =>
  rename_i o r t t' m m' past pend vs b mk _
  obtain ⟨T, M, V, h1, h2, h3, h4, h5⟩ := ih
  have hnl : o.k.loud = false := by simp [AK.loud, hc]
  refine ⟨consF t T, consF m M, consF _ V, rfl, rfl, h3, h4, h5.cons (by simp [hnl]) rfl (by simp [hnl]) (fun _ h => List.mem_cons_of_mem _ h) (by rw [h2]; exact .yes hw he (.make hc ha)) h1 (fun vs h => by rw [hc] at h; cases h) (fun b' _ _ e => ?_) (fun hl => by rw [hnl] at hl; cases hl)⟩
  rw [h2] at e
  have : b = b' := by simpa using e
  subst this
  exact List.mem_cons_self
 | loud hw he hl hop hp _ ih =>
  rename_i o r t t' m m1 m' past pend vs v _
  obtain ⟨T, M, V, h1, h2, h3, h4, h5⟩ := ih
  obtain ⟨c1, c2, c3⟩ := AK.loud_cls hl
  refine ⟨consF t T, consF m M, consF v V, rfl, rfl, h3, h4, h5.cons (by simp [hl]) rfl (by simp [hl]) (fun _ h => h) (by rw [h2]; exact .yes hw he hop) h1 (fun vs h => absurd h c1) (fun b h => absurd h c2) (fun _ => by rw [h2]; exact hp)⟩
end
end Go.Adm
end
section
namespace Go.Adm
structure SimF (μ : Nat → Option Blk) (ρ : LMap) (w : World) : Prop where
 lt : ∀ b L, ρ b = some L → L.blk < w.heap.size
 row : ∀ b L cells r, ρ b = some L → μ b = some (.row cells r) → RowAt ρ w L cells r
 map : ∀ b L es clock, ρ b = some L → μ b = some (.map es clock) → MapAt ρ w L es clock
 apart : ∀ b1 b2 L1 L2 k1 k2, b1 ≠ b2 → ρ b1 = some L1 → ρ b2 = some L2 → μ b1 = some k1 → μ b2 = some k2 →
  k1.live = true → k2.live = true → (k1.fixed = false ∨ k2.fixed = false) → L1.blk ≠ L2.blk
theorem Sim.toF {m : Mem} {ρ : LMap} {w : World} (h : Sim m ρ w) : SimF (fun b => m[b]?) ρ w := ⟨h.lt, h.row, h.map, h.apart⟩
theorem SimF.to {m : Mem} {ρ : LMap} {w : World} (h : SimF (fun b => m[b]?) ρ w) : Sim m ρ w := ⟨h.lt, h.row, h.map, h.apart⟩
theorem SimF.transfer {μ μ' : Nat → Option Blk} {ρ : LMap} {w : World} (h : SimF μ ρ w) (ht : ∀ b L k, ρ b = some L → μ' b = some k → k.live = true → μ b = some k) : SimF μ' ρ w :=
 ⟨h.lt, fun b L cells r h1 h2 => h.row b L cells r h1 (ht _ _ _ h1 h2 rfl), fun b L es c h1 h2 => h.map b L es c h1 (ht _ _ _ h1 h2 rfl),
  fun b1 b2 L1 L2 k1 k2 hne h1 h2 g1 g2 l1 l2 f => h.apart b1 b2 L1 L2 k1 k2 hne h1 h2 (ht _ _ _ h1 g1 l1) (ht _ _ _ h2 g2 l2) l1 l2 f⟩
def BlkAt (ρ : LMap) (w : World) (L : Loc) : Blk → Prop
 | .row cells r => RowAt ρ w L cells r
 | .map es c => MapAt ρ w L es c
 | .dead => True
theorem SimF.put_new {μ : Nat → Option Blk} {ρ : LMap} {w : World} (h : SimF μ ρ w) {id : Nat} {k : Blk} (o : Obj) {lim : Nat} (hρ : ρ id = none) (hid : μ id = some k)
  (hrow : BlkAt ρ (w.alloc o) ⟨w.heap.size, 0, lim⟩ k) : SimF μ (upd ρ id ⟨w.heap.size, 0, lim⟩) (w.alloc o) := by
 have hsub := upd_sub ⟨w.heap.size, 0, lim⟩ hρ
 have hsz : (w.alloc o).heap.size = w.heap.size + 1 := by simp
 have same : ∀ B, B < w.heap.size → (w.alloc o).heap[B]? = w.heap[B]? := fun B hB => RowKit.Below.heap_alloc w o B hB
 refine ⟨?_, ?_, ?_, ?_⟩
 ·intro b L hb
  by_cases e : b = id
  ·subst e; rw [upd_same] at hb; cases hb; rw [hsz]; exact Nat.lt_succ_self _
  ·rw [upd_ne _ _ e] at hb; have := h.lt b L hb; omega
 ·intro b L cs r hb hm
  by_cases e : b = id
  ·subst e; rw [upd_same] at hb; cases hb
   rw [hid] at hm; cases hm
   exact RowAt.mono hrow hsub rfl
  ·rw [upd_ne _ _ e] at hb
   exact (h.row b L cs r hb hm).mono hsub (same _ (h.lt b L hb))
 ·intro b L es c hb hm
  by_cases e : b = id
  ·subst e; rw [upd_same] at hb; cases hb
   rw [hid] at hm; cases hm
   exact MapAt.mono hrow hsub rfl
  ·rw [upd_ne _ _ e] at hb
   exact (h.map b L es c hb hm).mono hsub (same _ (h.lt b L hb))
 ·intro b1 b2 L1 L2 k1 k2 hne h1 h2 g1 g2 l1 l2 f
  by_cases e1 : b1 = id
  ·subst e1; rw [upd_same] at h1; cases h1
   rw [upd_ne _ _ (Ne.symm hne)] at h2
   have := h.lt _ _ h2
   simp only; omega
  ·rw [upd_ne _ _ e1] at h1
   by_cases e2 : b2 = id
   ·subst e2; rw [upd_same] at h2; cases h2
    have := h.lt _ _ h1
    simp only; omega
   ·rw [upd_ne _ _ e2] at h2
    exact h.apart b1 b2 L1 L2 k1 k2 hne h1 h2 g1 g2 l1 l2 f
theorem SimF.after {μ : Nat → Option Blk} {ρ ρ' : LMap} {w w' : World} {M1 M2 : Mem} (h : SimF μ ρ w) (h1 : ∀ b, b < M1.length → μ b = M1[b]?) (hst : Step M1 M2 ρ ρ' w w') (h2 : Sim M2 ρ' w') (hf : Fresh M1 M2 ρ) :
  SimF (fun b => if b < M2.length then M2[b]? else μ b) ρ' w' := by
 have hsub := hst.sub hf
 have hlen := hst.ab.len
 have keep : ∀ b L k, M2.length ≤ b → ρ' b = some L → μ b = some k → k.live = true → ρ b = some L ∧ w'.heap[L.blk]? = w.heap[L.blk]? := by
  intro b L k hb hρ' hμ hl
  rw [hst.old b (.inr hb)] at hρ'
  refine ⟨hρ', hst.frame _ (h.lt b L hρ') fun b0 L0 k0 g1 g2 g3 g4 => ?_⟩
  have hlt := lt_of_get g2
  exact h.apart b0 b L0 L k0 k (by omega) g1 hρ' (by rw [h1 b0 hlt]; exact g2) hμ g3 hl (.inl g4)
 refine ⟨h2.lt, ?_, ?_, ?_⟩
 ·intro b L cells r hb hm
  split at hm
  ·exact h2.row b L cells r hb hm
  ·obtain ⟨g1, g2⟩ := keep b L _ (by omega) hb hm rfl
   exact (h.row b L cells r g1 hm).mono hsub g2
 ·intro b L es c hb hm
  split at hm
  ·exact h2.map b L es c hb hm
  ·obtain ⟨g1, g2⟩ := keep b L _ (by omega) hb hm rfl
   exact (h.map b L es c g1 hm).mono hsub g2
 ·have one : ∀ b1 b2 L1 L2 k1 k2, b1 < M2.length → M2.length ≤ b2 → ρ' b1 = some L1 → ρ' b2 = some L2 → M2[b1]? = some k1 → μ b2 = some k2 → k1.live = true → k2.live = true → (k1.fixed = false ∨ k2.fixed = false) → L1.blk ≠ L2.blk := by
   intro b1 b2 L1 L2 k1 k2 hb1 hb2 r1 r2 g1 g2 l1 l2 f
   obtain ⟨q2, _⟩ := keep b2 L2 k2 hb2 r2 g2 l2
   by_cases hb : b1 < M1.length
   ·obtain ⟨k, i1, i2, i3⟩ := hst.ab.live b1 k1 hb g1 l1
    rw [hst.old b1 (.inl hb)] at r1
    exact h.apart b1 b2 L1 L2 k k2 (by omega) r1 q2 (by rw [h1 b1 hb]; exact i1) g2 i2 l2 (by rw [i3]; exact f)
   ·rcases hst.new b1 L1 (by omega) hb1 r1 with j | ⟨b0, L0, k0, j1, j2, j3, j4, j5⟩
    ·have := h.lt b2 L2 q2; omega
    ·have hlt := lt_of_get j2
     rw [j5]
     exact h.apart b0 b2 L0 L2 k0 k2 (by omega) j1 q2 (by rw [h1 b0 hlt]; exact j2) g2 j3 l2 (.inl j4)
  intro b1 b2 L1 L2 k1 k2 hne r1 r2 g1 g2 l1 l2 f
  split at g1
  ·split at g2
   ·exact h2.apart b1 b2 L1 L2 k1 k2 hne r1 r2 g1 g2 l1 l2 f
   ·exact one b1 b2 L1 L2 k1 k2 (by omega) (by omega) r1 r2 g1 g2 l1 l2 f
  ·split at g2
   ·exact (one b2 b1 L2 L1 k2 k1 (by omega) (by omega) r2 r1 g2 g1 l2 l1 f.symm).symm
   ·obtain ⟨q1, _⟩ := keep b1 L1 k1 (by omega) r1 g1 l1
    obtain ⟨q2, _⟩ := keep b2 L2 k2 (by omega) r2 g2 l2
    exact h.apart b1 b2 L1 L2 k1 k2 hne q1 q2 g1 g2 l1 l2 f
structure Part (m : Mem) (n : Nat) (ρ ρ' : LMap) (w w' : World) : Prop where
 old : ∀ b, b < m.length ∨ n ≤ b → ρ' b = ρ b
 new : ∀ b L, m.length ≤ b → b < n → ρ' b = some L →
  w.heap.size ≤ L.blk ∨ ∃ b0 L0 k0, ρ b0 = some L0 ∧ m[b0]? = some k0 ∧ k0.live = true ∧ k0.fixed = false ∧ L.blk = L0.blk
 os : w'.os = w.os
 tape : w'.tape = w.tape
 output : w'.output = w.output
 size : w.heap.size ≤ w'.heap.size
 frame : ∀ B, B < w.heap.size → (∀ b0 L0 k0, ρ b0 = some L0 → m[b0]? = some k0 → k0.live = true → k0.fixed = false → L0.blk ≠ B) → w'.heap[B]? = w.heap[B]?
theorem Part.push {m : Mem} {n : Nat} {ρ ρ' : LMap} {w w' : World} (h : Part m n ρ ρ' w w') {id lim : Nat} (h1 : m.length ≤ id) (h2 : id < n) (o : Obj) : Part m n ρ (upd ρ' id ⟨w'.heap.size, 0, lim⟩) w (w'.alloc o) := by
 have hsz : (w'.alloc o).heap.size = w'.heap.size + 1 := by simp
 refine ⟨fun b hb => ?_, fun b L g1 g2 g3 => ?_, h.os, h.tape, h.output, by have := h.size; omega, fun B hB hno => ?_⟩
 ·rw [upd_ne _ _ (by omega)]; exact h.old b hb
 ·by_cases e : b = id
  ·subst e; rw [upd_same] at g3; cases g3; exact .inl h.size
  ·rw [upd_ne _ _ e] at g3; exact h.new b L g1 g2 g3
 ·rw [RowKit.Below.heap_alloc w' o B (Nat.lt_of_lt_of_le hB h.size)]; exact h.frame B hB hno
theorem Part.trans {m M1 M2 : Mem} {n : Nat} {ρ ρ1 ρ2 : LMap} {w w1 w2 : World} (h : Part m n ρ ρ1 w w1) (hab : AStep m M1) (k : Step M1 M2 ρ1 ρ2 w1 w2) (hn : M2.length ≤ n) : Part m n ρ ρ2 w w2 := by
 have hl := hab.len
 have kl := k.ab.len
 refine ⟨fun b hb => ?_, fun b L g1 g2 g3 => ?_, k.os.trans h.os, k.tape.trans h.tape, k.output.trans h.output, Nat.le_trans h.size k.size, fun B hB hno => ?_⟩
 ·rw [k.old b (by omega), h.old b hb]
 ·by_cases hb : b < M1.length ∨ M2.length ≤ b
  ·rw [k.old b hb] at g3; exact h.new b L g1 g2 g3
  ·rcases k.new b L (by omega) (by omega) g3 with j | ⟨b0, L0, k0, j1, j2, j3, j4, j5⟩
   ·exact .inl (Nat.le_trans h.size j)
   ·by_cases hb0 : b0 < m.length
    ·obtain ⟨k1, i1, i2, i3⟩ := hab.live b0 k0 hb0 j2 j3
     rw [h.old b0 (.inl hb0)] at j1
     exact .inr ⟨b0, L0, k1, j1, i1, i2, i3.trans j4, j5⟩
    ·rcases h.new b0 L0 (by omega) (by have := lt_of_get j2; omega) j1 with q | ⟨b1, L1, k1, q1, q2, q3, q4, q5⟩
     ·exact .inl (by rw [j5]; exact q)
     ·exact .inr ⟨b1, L1, k1, q1, q2, q3, q4, j5.trans q5⟩
 ·rw [k.frame B (Nat.lt_of_lt_of_le hB h.size) ?_, h.frame B hB hno]
  intro b0 L0 k0 g1 g2 g3 g4 hBe
  by_cases hb0 : b0 < m.length
  ·obtain ⟨k1, i1, i2, i3⟩ := hab.live b0 k0 hb0 g2 g3
   rw [h.old b0 (.inl hb0)] at g1
   exact hno b0 L0 k1 g1 i1 i2 (i3.trans g4) hBe
  ·rcases h.new b0 L0 (by omega) (by have := lt_of_get g2; omega) g1 with q | ⟨b1, L1, k1, q1, q2, q3, q4, q5⟩
   ·omega
   ·exact hno b1 L1 k1 q1 q2 q3 q4 (q5 ▸ hBe)
def AFr.only (ks : List Nat) (t : AFr) : AFr := t.filter fun p => ks.contains p.1
theorem AFr.get_only (ks : List Nat) (t : AFr) (x : Nat) : (t.only ks).get x = if ks.contains x then t.get x else none := by
 induction t with
 | nil => simp [AFr.only, AFr.get]
 | cons p t ih =>
  obtain ⟨i, v⟩ := p
  simp only [AFr.only, List.filter_cons] at *
  split
  ·rename_i hk
   simp only [AFr.get, ih]
   split
   ·rename_i e; subst e; rw [if_pos hk]
   ·rfl
  ·rename_i hk
   simp only [AFr.get, ih]
   split
   ·rename_i hx
    split
    ·rename_i e; subst e; exact absurd hx hk
    ·rfl
   ·rfl
theorem evalAll_only {ks : List Nat} {t : AFr} : ∀ (xs : List AX), (∀ n, AX.t n ∈ xs → n ∈ ks) → evalAll (t.only ks) xs = evalAll t xs := by
 intro xs
 induction xs with
 | nil => intro _; rfl
 | cons x xs ih =>
  intro h
  simp only [evalAll]
  rw [ih fun n hn => h n (List.mem_cons_of_mem _ hn)]
  congr 1
  cases x with
  | c v => rfl
  | t n =>
   simp only [AX.eval]
   rw [AFr.get_only, if_pos (by simpa using h n List.mem_cons_self)]
theorem AOper.names_xs {o : AOper} {n : Nat} (h : AX.t n ∈ o.xs) : n ∈ o.names := by
 unfold AOper.names
 refine List.mem_append_right _ (List.mem_append_left _ (List.mem_filterMap.2 ⟨_, h, rfl⟩))
theorem AOper.names_g {o : AOper} {j : Nat} {b : Bool} (h : o.g = some (j, b)) : j ∈ o.names := by
 unfold AOper.names
 refine List.mem_append_right _ (List.mem_append_right _ ?_)
 rw [h]; exact List.mem_cons_self
theorem AOper.names_dst {o : AOper} {x : Nat} (h : o.dst = some x) : x ∈ o.names := by
 unfold AOper.names
 refine List.mem_append_left _ ?_
 rw [h]; simp
theorem wantedA_only {o : AOper} {t : AFr} : wantedA o.g (t.only o.names) = wantedA o.g t := by
 unfold wantedA
 cases hg : o.g with
 | none => rfl
 | some p =>
  obtain ⟨j, b⟩ := p
  simp only
  rw [AFr.get_only, if_pos (by simpa using AOper.names_g hg)]
theorem mapOf_ext {m e : Mem} {b : Nat} {p : List (AV × AV × Nat) × Nat} (h : mapOf m b = some p) : mapOf (m ++ e) b = some p := by
 have := mapOf_some h
 unfold mapOf
 rw [List.getElem?_append_left (lt_of_get this), this]
theorem aR_ext {k : AK} {vs : List AV} {m e : Mem} {v : AV} (h : aR k vs m = some v) : aR k vs (m ++ e) = some v := by
 cases k <;> simp only [aR, reduceCtorEq] at h ⊢
 case mark =>
  unfold rMark at h ⊢
  split at h
  ·split at h
   ·rename_i hp; cases h
    rw [if_pos]; refine ⟨hp.1, ?_⟩
    have hp := hp.2
    unfold own at hp ⊢
    split at hp
    ·rename_i e; rw [List.getElem?_append_left (lt_of_get e), e]; rfl
    ·cases hp
   ·cases h
  ·cases h
 case b2s =>
  unfold rB2s at h ⊢
  split at h
  ·exact h
  ·simp only [Option.bind_eq_some_iff] at h ⊢
   obtain ⟨cells, hr, h⟩ := h
   refine ⟨cells, ?_, h⟩
   rename_i b o len cap s
   simp only [elems] at hr ⊢
   by_cases h0 : len = 0
   ·rw [if_pos h0] at hr ⊢; exact hr
   ·simp only [if_neg h0, Nat.le_refl, if_true, Option.bind_eq_some_iff] at hr ⊢
    obtain ⟨row, hrow, hr⟩ := hr
    refine ⟨row, ?_, hr⟩
    obtain ⟨r, hr'⟩ := rowOf_some hrow
    unfold rowOf
    rw [List.getElem?_append_left (lt_of_get hr'), hr']
  ·cases h
 case lenMap =>
  unfold rLenMap at h ⊢
  split at h
  ·simp only [Option.map_eq_some_iff] at h ⊢
   obtain ⟨p, hp, h⟩ := h
   exact ⟨p, mapOf_ext hp, h⟩
  ·exact h
  ·cases h
 case lookup =>
  unfold rLookup at h ⊢
  split at h
  ·split at h
   ·rename_i hf
    rw [if_pos hf]
    simp only [Option.bind_eq_some_iff] at h ⊢
    obtain ⟨p, hp, h⟩ := h
    exact ⟨p, mapOf_ext hp, h⟩
   ·cases h
  ·cases h
 unfold rLoad at h ⊢
 split at h
 ·simp only [Option.bind_eq_some_iff] at h ⊢
  obtain ⟨cells, hr, h⟩ := h
  refine ⟨cells, ?_, h⟩
  obtain ⟨r, hr'⟩ := rowOf_some hr
  unfold rowOf
  rw [List.getElem?_append_left (lt_of_get hr'), hr']
 ·cases h
end Go.Adm
end
section
namespace Go.Adm
structure Sched (P : Program) (n : Nat) (ops : Array Oper) (l : List AOper) (B : Nat → Nat) : Prop where
 len : l.length = ops.size
 op : ∀ (i : Nat) (o : AOper), l[i]? = some o → ∃ co, ops[i]? = some co ∧ ckOper P n ops.toList co o.lo o.hi = some o
 edge : ∀ (i : Nat) (co : Oper), ops[i]? = some co → ∀ e ∈ co.after, Region.binds .any e = true → e.on < i
 bef : ∀ (i : Nat) (co : Oper), ops[i]? = some co → ∀ x, (B i).testBit x = true → ∃ e ∈ co.after, Region.binds .any e = true ∧ (x = e.on ∨ (B e.on).testBit x = true)
 ord : ∀ (p i : Nat) (a o : AOper), p < i → l[p]? = some a → l[i]? = some o → clash a o = true → (B i).testBit p = true
 lo : ∀ (i : Nat) (o : AOper), l[i]? = some o → ∀ c, (∀ (q : Nat) (a : AOper), l[q]? = some a → a.k.loud = true → (B i).testBit q = true → q < c) → o.lo ≤ loudIn l c
 hi : ∀ (i : Nat) (o : AOper), l[i]? = some o → ∀ c, (∀ (q : Nat) (a : AOper), l[q]? = some a → a.k.loud = true → q < c → (B q).testBit i = false) → loudIn l c ≤ o.hi
section
variable {P : Program} {n : Nat} {ops : Array Oper} {l : List AOper} {B : Nat → Nat} {T : Nat → AFr} {M : Nat → Mem} {V : Nat → AV}
def loudAt (l : List AOper) (i : Nat) : Prop := ∃ o, l[i]? = some o ∧ o.k.loud = true
theorem next_loud (l : List AOper) : ∀ (d a : Nat), l.length - a = d → a ≤ l.length → ∃ p, a ≤ p ∧ p ≤ l.length ∧ (p = l.length ∨ loudAt l p) ∧ ∀ x, a ≤ x → x < p → ¬ loudAt l x := by
 intro d
 induction d with
 | zero => intro a h h2; exact ⟨a, Nat.le_refl _, h2, .inl (by omega), fun x h1 h2 => by omega⟩
 | succ d ih =>
  intro a h h2
  by_cases hl : loudAt l a
  ·exact ⟨a, Nat.le_refl _, h2, .inr hl, fun x h1 h2 => by omega⟩
  ·obtain ⟨p, g1, g2, g3, g4⟩ := ih (a + 1) (by omega) (by omega)
   refine ⟨p, by omega, g2, g3, fun x hx1 hx2 => ?_⟩
   by_cases e : x = a
   ·subst e; exact hl
   ·exact g4 x (by omega) hx2
theorem last_loud (l : List AOper) (a : Nat) : ∀ (p : Nat), a ≤ p → (∀ x, a ≤ x → x < p → ¬ loudAt l x) ∨ ∃ r, a ≤ r ∧ r < p ∧ loudAt l r ∧ ∀ x, r < x → x < p → ¬ loudAt l x := by
 intro p
 induction p with
 | zero => intro _; exact .inl fun x _ h => by omega
 | succ p ih =>
  intro h
  by_cases hl : a ≤ p ∧ loudAt l p
  ·exact .inr ⟨p, hl.1, Nat.lt_succ_self _, hl.2, fun x h1 h2 => by omega⟩
  ·by_cases hap : a ≤ p
   ·rcases ih hap with g | ⟨r, g1, g2, g3, g4⟩
    ·refine .inl fun x h1 h2 => ?_
     by_cases e : x = p
     ·subst e; exact fun hx => hl ⟨hap, hx⟩
     ·exact g x h1 (by omega)
    ·refine .inr ⟨r, g1, by omega, g3, fun x h1 h2 => ?_⟩
     by_cases e : x = p
     ·subst e; exact fun hx => hl ⟨hap, hx⟩
     ·exact g4 x h1 (by omega)
   ·exact .inl fun x h1 h2 => by omega
theorem loudIn_succ {i : Nat} {o : AOper} (h : l[i]? = some o) : loudIn l (i + 1) = loudIn l i + (if o.k.loud then 1 else 0) := by
 simp only [loudIn]
 rw [List.take_add_one, h]
 simp only [Option.toList_some, List.filter_append, List.length_append, List.filter_cons, List.filter_nil]
 split <;> simp
theorem loudIn_none {a : Nat} : ∀ (p : Nat), a ≤ p → p ≤ l.length → (∀ x, a ≤ x → x < p → ¬ loudAt l x) → loudIn l p = loudIn l a := by
 intro p
 induction p with
 | zero => intro h _ _; obtain rfl : a = 0 := (by omega); rfl
 | succ p ih =>
  intro h hp hx
  by_cases e : a = p + 1
  ·rw [e]
  ·have hlt : p < l.length := by omega
   have ho : l[p]? = some l[p] := by simp [hlt]
   rw [loudIn_succ ho, ih (by omega) (by omega) (fun x h1 h2 => hx x h1 (by omega))]
   have : l[p].k.loud = false := by
    have := hx p (by omega) (Nat.lt_succ_self _)
    simpa [loudAt, ho] using this
   simp [this]
section
variable (R : Run P l 0 [] [] T M V)
include R
theorem Run.astep {i : Nat} (hi : i < l.length) : AStep (M i) (M (i + 1)) := (R.step i l[i] (by simp [hi])).1.astep
theorem Run.asteps {i : Nat} : ∀ (j : Nat), i ≤ j → j ≤ l.length → AStep (M i) (M j) := by
 intro j
 induction j with
 | zero => intro h _; obtain rfl : i = 0 := (by omega); exact .refl _
 | succ j ih =>
  intro h hj
  by_cases e : i = j + 1
  ·subst e; exact .refl _
  ·exact (ih (by omega) (by omega)).trans (R.astep (by omega))
theorem Run.quiet {i : Nat} (hi : i < l.length) (hq : ¬ loudAt l i) : M (i + 1) = M i ∨ ∃ b, M (i + 1) = M i ++ [b] := by
 have ho : l[i]? = some l[i] := by simp [hi]
 have hnl : l[i].k.loud = false := by simpa [loudAt, ho] using hq
 have := (R.step i l[i] ho).1
 generalize M (i + 1) = m' at *
 generalize V i = v at this
 cases this with
 | no => exact .inl rfl
 | yes _ _ hop =>
  generalize hk : l[i].k = k at *
  cases hop with
  | pure => exact .inl rfl
  | read => exact .inl rfl
  | make => exact .inr ⟨_, rfl⟩
  | write h => simp [AK.loud, h] at hnl
  | call => simp [AK.loud, AK.cls] at hnl
  | callv => simp [AK.loud, AK.cls] at hnl
  | invoke => simp [AK.loud, AK.cls] at hnl
theorem Run.quiets {i : Nat} : ∀ (j : Nat), i ≤ j → j ≤ l.length → (∀ x, i ≤ x → x < j → ¬ loudAt l x) → ∃ e, M j = M i ++ e := by
 intro j
 induction j with
 | zero => intro h _ _; obtain rfl : i = 0 := (by omega); exact ⟨[], by simp⟩
 | succ j ih =>
  intro h hj hx
  by_cases e : i = j + 1
  ·subst e; exact ⟨[], by simp⟩
  ·obtain ⟨e, he⟩ := ih (by omega) (by omega) (fun x h1 h2 => hx x h1 (by omega))
   rcases R.quiet (i := j) (by omega) (hx j (by omega) (Nat.lt_succ_self _)) with g | ⟨b, g⟩
   ·exact ⟨e, by rw [g, he]⟩
   ·exact ⟨e ++ [b], by rw [g, he]; simp⟩
theorem Run.frame {x : Nat} {v : AV} : ∀ (i : Nat), i ≤ l.length → (T i).get x = some v →
  (∃ j o, j < i ∧ l[j]? = some o ∧ o.dst = some x ∧ v = V j ∧ ∀ j' o', j < j' → j' < i → l[j']? = some o' → o'.dst ≠ some x) ∨
  ((∀ j o, j < i → l[j]? = some o → o.dst ≠ some x) ∧ (T 0).get x = some v) := by
 intro i
 induction i with
 | zero => intro _ h; exact .inr ⟨fun j o h => by omega, h⟩
 | succ i ih =>
  intro hi h
  have ho : l[i]? = some l[i] := by simp [show i < l.length by omega]
  rw [(R.step i l[i] ho).2] at h
  by_cases hd : l[i].dst = some x
  ·rw [hd] at h
   simp only [AFr.put, AFr.get_set, if_true, Option.some.injEq] at h
   exact .inl ⟨i, l[i], Nat.lt_succ_self _, ho, hd, h.symm, fun j' o' h1 h2 => by omega⟩
  ·have h' : (T i).get x = some v := by
    cases hdd : l[i].dst with
    | none => rw [hdd] at h; exact h
    | some y =>
     rw [hdd] at h
     simp only [AFr.put, AFr.get_set] at h
     rw [if_neg (fun e => hd (by rw [hdd, e]))] at h
     exact h
   rcases ih (by omega) h' with ⟨j, o, g1, g2, g3, g4, g5⟩ | ⟨g1, g2⟩
   ·refine .inl ⟨j, o, by omega, g2, g3, g4, fun j' o' h1 h2 h3 => ?_⟩
    by_cases e : j' = i
    ·subst e; rw [ho] at h3; cases h3; exact hd
    ·exact g5 j' o' h1 (by omega) h3
   ·refine .inr ⟨fun j o h1 h2 => ?_, g2⟩
    by_cases e : j = i
    ·subst e; rw [ho] at h2; cases h2; exact hd
    ·exact g1 j o (by omega) h2
end
def Makes (l : List AOper) (T : Nat → AFr) (M : Nat → Mem) (i : Nat) (b : Blk) : Prop :=
 ∃ o, l[i]? = some o ∧ o.k.cls = .make ∧ wantedA o.g (T i) = some true ∧ M (i + 1) = M i ++ [b]
open Classical in
noncomputable def initB (l : List AOper) (T : Nat → AFr) (M : Nat → Mem) (x : Nat) : Option Blk :=
 if h : ∃ b i, Makes l T M i b ∧ (M i).length = x then some h.choose else none
noncomputable def memAt (l : List AOper) (T : Nat → AFr) (M : Nat → Mem) (p : Nat) (x : Nat) : Option Blk :=
 if x < (M p).length then (M p)[x]? else initB l T M x
section
variable (R : Run P l 0 [] [] T M V)
include R
omit R in
theorem Makes.lt {i : Nat} {b : Blk} (h : Makes l T M i b) : i < l.length := by
 obtain ⟨o, h, _⟩ := h
 exact lt_of_get h
theorem Makes.uniq {i j : Nat} {b c : Blk} (h : Makes l T M i b) (k : Makes l T M j c) (he : (M i).length = (M j).length) : b = c := by
 have hi := h.lt
 have hj := k.lt
 rcases Nat.lt_trichotomy i j with g | g | g
 ·have := (R.asteps (i := i + 1) j (by omega) (by omega)).len
  obtain ⟨o, _, _, _, e⟩ := h
  rw [e] at this; simp at this; omega
 ·subst g
  obtain ⟨_, _, _, _, e⟩ := h
  obtain ⟨_, _, _, _, e2⟩ := k
  rw [e] at e2
  simpa using e2
 ·have := (R.asteps (i := j + 1) i (by omega) (by omega)).len
  obtain ⟨o, _, _, _, e⟩ := k
  rw [e] at this; simp at this; omega
theorem initB_of {i : Nat} {b : Blk} (h : Makes l T M i b) : initB l T M (M i).length = some b := by
 unfold initB
 have hex : ∃ b' j, Makes l T M j b' ∧ (M j).length = (M i).length := ⟨b, i, h, rfl⟩
 rw [dif_pos hex]
 obtain ⟨j, hj, he⟩ := hex.choose_spec
 rw [hj.uniq R h he]
theorem quiet_init {i : Nat} : ∀ (j : Nat), i ≤ j → j ≤ l.length → (∀ x, i ≤ x → x < j → ¬ loudAt l x) → ∀ x, (M i).length ≤ x → x < (M j).length → (M j)[x]? = initB l T M x := by
 intro j
 induction j with
 | zero => intro h _ _ x h1 h2; obtain rfl : i = 0 := (by omega); omega
 | succ j ih =>
  intro h hj hx x h1 h2
  by_cases e : i = j + 1
  ·subst e; omega
  ·have ho : l[j]? = some l[j] := by simp [show j < l.length by omega]
   have hq := hx j (by omega) (Nat.lt_succ_self _)
   rcases R.quiet (i := j) (by omega) hq with g | ⟨b, g⟩
   ·rw [g] at h2 ⊢
    exact ih (by omega) (by omega) (fun x h1 h2 => hx x h1 (by omega)) x h1 h2
   ·by_cases hxl : x < (M j).length
    ·rw [g, List.getElem?_append_left hxl]
     exact ih (by omega) (by omega) (fun x h1 h2 => hx x h1 (by omega)) x h1 hxl
    ·rw [g] at h2
     simp at h2
     obtain rfl : x = (M j).length := by omega
     have hmk : Makes l T M j b := by
      have hst := (R.step j l[j] ho).1
      have hnl : l[j].k.loud = false := by simpa [loudAt, ho] using hq
      rw [g] at hst
      have hne : M j ≠ M j ++ [b] := by intro e; have := congrArg List.length e; simp at this
      refine ⟨l[j], ho, ?_, ?_, g⟩
      ·generalize hm' : M j ++ [b] = m' at hst hne
       generalize V j = v at hst
       cases hst with
       | no => exact absurd rfl hne
       | yes _ _ hop =>
        generalize hk : l[j].k = k at *
        cases hop with
        | pure => exact absurd rfl hne
        | read => exact absurd rfl hne
        | make h => exact h
        | write h => simp [AK.loud, h] at hnl
        | call => simp [AK.loud, AK.cls] at hnl
        | callv => simp [AK.loud, AK.cls] at hnl
        | invoke => simp [AK.loud, AK.cls] at hnl
      ·generalize hm' : M j ++ [b] = m' at hst hne
       generalize V j = v at hst
       cases hst with
       | no => exact absurd rfl hne
       | yes h _ _ => exact h
     rw [g, get_append_self, initB_of R hmk]
end
end
end Go.Adm
end
