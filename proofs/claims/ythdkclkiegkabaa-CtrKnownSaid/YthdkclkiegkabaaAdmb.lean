/- Arguments: bytes, blocks of bytes, arrays by value. -/
import Derived.Test.YthdkclkiegkabaaAdmV
import Derived.Test.YthdkclkiegkabaaAdma
namespace Go.Adm
open Go.ChangeShapes Go.WideShapes Go.ChangeAt Go.RowKit

theorem Opens.imp {W : World} {Q Q' : AV → Mem → Prop} {v : Value} (h : Opens W Q v) (hi : ∀ x m ρ, VR ρ x v → Q x m → Q' x m) : Opens W Q' v := by
  intro m ρ hs
  obtain ⟨e, ρ', x, h1, h2, h3, h4⟩ := h m ρ hs
  exact ⟨e, ρ', x, h1, h2, h3, fun e' => hi _ _ _ h3 (h4 e')⟩

def toB (n : Int) : B8 := BitVec.ofInt 8 n
theorem toB_wf {n : Int} (h : (Lit.int .u8 n).wf = true) : AV.int .u8 n = b8 (toB n) := by
  simp only [Lit.wf, Bool.and_eq_true, decide_eq_true_eq] at h
  have h1 : IntKind.u8.min = 0 := rfl
  have h2 : IntKind.u8.max = 255 := rfl
  rw [h1, h2] at h
  show AV.int .u8 n = AV.int .u8 ((toB n).toNat : Int)
  rw [toB, BitVec.toNat_ofInt]
  congr 1
  omega
theorem map_toB {g : List Int} (w : ∀ n ∈ g, (Lit.int .u8 n).wf = true) : g.map (AV.int .u8) = bys (g.map toB) := by
  show _ = (g.map toB).map b8
  rw [List.map_map]
  exact List.map_congr_left fun n hn => toB_wf (w n hn)
theorem VR.sl_cap {ρ : LMap} {b o n cap s : Nat} {v : Value} (h : VR ρ (.sl b o n cap s) v) : n ≤ cap := by
  cases h <;> assumption
theorem Opens.bytes {W : World} {g : List Int} {v : Value} (w : ∀ n ∈ g, (Lit.int .u8 n).wf = true) (h : Opens W (IsInts .u8 g) v) : Opens W (fun x m => RdB m x (g.map toB)) v :=
  h.imp fun x m ρ hv hq => by
    rcases hq with ⟨rfl, rfl⟩ | ⟨b, cap, rfl, hr⟩
    · exact .nils m
    · have hc := hv.sl_cap
      rw [map_toB w] at hr
      have := RdB.row cap 0 hr (by simpa using hc)
      rwa [List.length_map] at this

section
variable {H : Type} {enc : TypeId × Value → H} {P : Program} {W : World}
theorem Opens.row {r : Reach} {b0 : Nat} {t : TypeId} {d0 : Nat} {ks : List IntKind} {v : Value} {d : DataW H} {ps : List MemPlace} (ha : aggD P t = some true) (he : intCells P d0 t = some ks)
    (hval : Value.okWide P W r b0 t v) (h : DataW.Trod enc P W 0 (fun _ => true) true t v d ps) :
    ∃ ns : List Int, (ns.length = ks.length ∧ ∀ (i : Nat) (k : IntKind) (n : Int), ks[i]? = some k → ns[i]? = some n → (Lit.int k n).wf = true) ∧ ∀ ρ, VR ρ (.agg (Ints ks ns)) v := by
  obtain ⟨cs, rfl⟩ : ∃ cs, v = .agg cs := by
    unfold aggD at ha
    unfold Value.okWide at hval
    split at ha
    · rename_i fs hu; simp only [hu] at hval; obtain ⟨cs, h, _⟩ := hval; exact ⟨cs, h⟩
    · rename_i n e hu; simp only [hu] at hval; obtain ⟨cs, h, _⟩ := hval; exact ⟨cs, h⟩
    · cases ha
    · cases ha
  obtain ⟨fuel, hf⟩ := h
  obtain ⟨ns, hns⟩ := reads_of_trod d0 t ks fuel _ _ he hf
  simp only [Value.cells] at hns
  refine ⟨ns, ⟨hns.len, hns.wf⟩, fun ρ => .agg (by simpa using hns.pl.1) hns.pl.2.1 fun i x y hx hy => hns.pl.2.2 i x y hx (by simpa using hy) ρ⟩
end

theorem Ints_bys {n : Nat} {ns : List Int} (hl : ns.length = n) (w : ∀ (i : Nat) (k : IntKind) (x : Int), (List.replicate n IntKind.u8)[i]? = some k → ns[i]? = some x → (Lit.int k x).wf = true) :
    Ints (List.replicate n .u8) ns = bys (ns.map toB) := by
  subst hl
  apply List.ext_getElem?
  intro i
  by_cases hi : i < ns.length
  · have h1 : ns[i]? = some ns[i] := List.getElem?_eq_getElem hi
    have h2 : (List.replicate ns.length IntKind.u8)[i]? = some .u8 := by simp [hi]
    have hw := w i _ _ h2 h1
    rw [Ints, List.getElem?_zipWith, h1, h2, List.getElem?_map, List.getElem?_map, h1]
    simp only [Option.map_some]
    rw [toB_wf hw]
  · rw [List.getElem?_eq_none (by simp [Ints]; omega), List.getElem?_eq_none (by simp; omega)]

/-- Blocks of n bytes, one behind the other. -/
def bk (n : Nat) (l : List B8) : List AV := bys (tab n (gb l))
theorem bk_len (n : Nat) (l : List B8) : (bk n l).length = n := by simp [bk, tab_len]
theorem bk_eq {n : Nat} {l : List B8} (h : l.length = n) : bk n l = bys l := by rw [bk, tab_gb h]
def RdBs (n : Nat) (m : Mem) (x : AV) (L : List (List B8)) : Prop :=
  (x = .nils ∧ L = []) ∨ ∃ b cap, x = .sl b 0 L.length cap 0 ∧ rowOf m b = some (flatOf (bk n) L)
theorem RdBs.kept0 {n : Nat} {m m' : Mem} {x : AV} {L : List (List B8)} (h : RdBs n m x L) (hk : Kept [] m m') : RdBs n m' x L := by
  rcases h with h | ⟨b, cap, h1, h2⟩
  · exact .inl h
  · exact .inr ⟨b, cap, h1, hk.row0 h2⟩
theorem RdBs.len {n : Nat} {m : Mem} {x : AV} {L : List (List B8)} (h : RdBs n m x L) : pLen [x] = some (.int .i64 L.length) := by
  rcases h with ⟨rfl, rfl⟩ | ⟨b, cap, rfl, _⟩ <;> rfl
theorem RdBs.cons {n : Nat} {m : Mem} {x : AV} {L : List (List B8)} (h : RdBs n m x L) {i : Nat} (hi : i < L.length) : ∃ b cap, x = .sl b 0 L.length cap 0 ∧ rowOf m b = some (flatOf (bk n) L) := by
  rcases h with ⟨_, rfl⟩ | h
  · cases hi
  · exact h
theorem flat_bk_get {n : Nat} {L : List (List B8)} (hL : ∀ l ∈ L, l.length = n) {i : Nat} (hi : i < L.length) : ((flatOf (bk n) L).drop (i * n)).take n = bys L[i] := by
  rw [flatOf_get (bk_len n) L i hi, bk_eq (hL _ (List.getElem_mem hi))]
theorem flat_bk_len (n : Nat) (L : List (List B8)) : (flatOf (bk n) L).length = L.length * n := flatOf_length (bk_len n) L
theorem flat_bk_le {n : Nat} {L : List (List B8)} {i : Nat} (hi : i < L.length) : i * n + n ≤ (flatOf (bk n) L).length := by
  rw [flat_bk_len]
  have : (i + 1) * n ≤ L.length * n := Nat.mul_le_mul_right _ hi
  rwa [Nat.add_mul, Nat.one_mul] at this
theorem flat_bk_snoc {n : Nat} {L : List (List B8)} {l : List B8} (h : l.length = n) : flatOf (bk n) L ++ bys l = flatOf (bk n) (L ++ [l]) := by
  simp [flatOf, bk_eq h]
/-- The block that a slice's value names. -/
def blkOf : AV → List Nat
  | .sl b .. => [b]
  | _ => []
/-- A list of blocks of n bytes under way: nil, or all of a block of memory. -/
def GrBs (n m0 : Nat) (m : Mem) (x : AV) (L : List (List B8)) : Prop :=
  (x = .nils ∧ L = []) ∨ (L ≠ [] ∧ ∃ b, x = .sl b 0 L.length L.length n ∧ own m b = some (flatOf (bk n) L) ∧ m0 ≤ b)
theorem GrBs.kept {n m0 : Nat} {X : List Nat} {m m' : Mem} {x : AV} {L : List (List B8)} (h : GrBs n m0 m x L) (hk : Kept X m m') (hx : ∀ b ∈ blkOf x, b ∉ X) : GrBs n m0 m' x L := by
  rcases h with h | ⟨h0, b, rfl, h2, h3⟩
  · exact .inl h
  · exact .inr ⟨h0, b, rfl, hk.own h2 (hx b (by simp [blkOf])), h3⟩
theorem GrBs.len {n m0 : Nat} {m : Mem} {x : AV} {L : List (List B8)} (h : GrBs n m0 m x L) : pLen [x] = some (.int .i64 L.length) := by
  rcases h with ⟨rfl, rfl⟩ | ⟨_, b, rfl, _⟩ <;> rfl
theorem GrBs.cons {n m0 : Nat} {m : Mem} {x : AV} {L : List (List B8)} (h : GrBs n m0 m x L) {i : Nat} (hi : i < L.length) : ∃ b, x = .sl b 0 L.length L.length n ∧ own m b = some (flatOf (bk n) L) ∧ m0 ≤ b := by
  rcases h with ⟨_, rfl⟩ | ⟨_, h⟩
  · cases hi
  · exact h
theorem GrBs.push {n m0 bytes : Nat} {m : Mem} {x : AV} {L : List (List B8)} (h : GrBs n m0 m x L) (hn : 0 < n) {l : List B8} (hl : l.length = n) (hb : (L.length + 1) * bytes ≤ 1099511627776 ∧ L.length + 1 ≤ 1099511627776) (hm : m0 ≤ m.length) :
    ∃ x' m', aAppend n bytes x (.sl m.length 0 1 1 0) (m ++ [.row (bys l) false]) = some (x', m') ∧ GrBs n m0 m' x' (L ++ [l]) ∧ Kept (blkOf x) m m' := by
  rcases h with ⟨rfl, rfl⟩ | ⟨_, b, rfl, h2, h3⟩
  · refine ⟨_, _, appS_nils1 (by simpa using hl) (by simpa using hb.1), .inr ⟨by simp, _, rfl, ?_, by omega⟩, .app _ _ _⟩
    rw [own_app_at]
    simp [own_c, own_c0, flatOf, bk_eq hl]
  · refine ⟨_, _, appS_grow1 h2 (flat_bk_len n L) hn (by simpa using hl) hb, .inr ⟨by simp, m.length + 1, by simp, ?_, by omega⟩, ?_⟩
    · rw [own_sa, flat_bk_snoc hl]
      simp [own_c, own_c0]
    · exact (Kept.set1 m b _).more_app _
theorem Opens.blocks {W : World} {n : Nat} {nss : List (List Int)} {v : Value} (w : ∀ ns ∈ nss, ns.length = (List.replicate n IntKind.u8).length ∧ ∀ (i : Nat) (k : IntKind) (x : Int), (List.replicate n IntKind.u8)[i]? = some k → ns[i]? = some x → (Lit.int k x).wf = true)
    (h : Opens W (IsRows (List.replicate n .u8) nss) v) : Opens W (fun x m => RdBs n m x (nss.map (List.map toB))) v :=
  h.imp fun x m ρ hv hq => by
    rcases hq with ⟨rfl, rfl⟩ | ⟨b, cap, rfl, hr⟩
    · exact .inl ⟨rfl, rfl⟩
    · refine .inr ⟨b, cap, by simp, ?_⟩
      rw [hr, flatOf, List.flatMap_map]
      congr 1
      rw [List.flatMap_def, List.flatMap_def]
      congr 1
      refine List.map_congr_left fun ns hn => ?_
      have := w ns hn
      rw [List.length_replicate] at this
      rw [Ints_bys this.1 this.2, bk_eq (by simp [this.1])]
end Go.Adm
