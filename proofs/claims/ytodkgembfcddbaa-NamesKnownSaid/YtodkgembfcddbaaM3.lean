/- Texts of this seat, joined (part 3 of 5): an abstract memory for Go programs, this seat's functions as abstract code, and what each of them does. -/
import Derived.Test.YtodkgembfcddbaaProg
import Derived.KernelRfl
import Derived.Test.YtodkgembfcddbaaM2
set_option linter.unusedSimpArgs false
section
/- Arguments: structs and lists of structs whose fields are integers, bools and lists of bytes; lists of lists of bytes. -/
namespace Go.Adm
open Go.ChangeShapes Go.WideShapes Go.ChangeAt Go.RowKit

/-- What a cell that comes in holds: an integer, a bool, a list of bytes. -/
inductive Fk where
  | i (k : IntKind) | t | b
inductive Fd where
  | i (n : Int) | t (b : Bool) | b (l : List B8)
/-- How a cell's abstract value shows its data. -/
def RdC (m : Mem) : Fk → Fd → AV → Prop
  | .i k, .i n, x => x = .int k n ∧ (Lit.int k n).wf = true
  | .t, .t b, x => x = .bool b
  | .b, .b l, x => RdB m x l
  | _, _, _ => False
theorem RdC.kept0 {m m' : Mem} {k : Fk} {d : Fd} {x : AV} (h : RdC m k d x) (hk : Kept [] m m') : RdC m' k d x := by
  cases k <;> cases d <;> first | exact h | exact RdB.kept0 h hk
inductive RdCs (m : Mem) : List Fk → List Fd → List AV → Prop
  | nil : RdCs m [] [] []
  | cons {k : Fk} {d : Fd} {x : AV} {ks : List Fk} {ds : List Fd} {xs : List AV} : RdC m k d x → RdCs m ks ds xs → RdCs m (k :: ks) (d :: ds) (x :: xs)
theorem RdCs.imp {m m' : Mem} (hi : ∀ k d x, RdC m k d x → RdC m' k d x) {ks : List Fk} {ds : List Fd} {xs : List AV} (h : RdCs m ks ds xs) : RdCs m' ks ds xs := by
  induction h with
  | nil => exact .nil
  | cons a _ ih => exact .cons (hi _ _ _ a) ih
theorem RdCs.kept0 {m m' : Mem} {ks : List Fk} {ds : List Fd} {xs : List AV} (h : RdCs m ks ds xs) (hk : Kept [] m m') : RdCs m' ks ds xs := h.imp fun _ _ _ h => h.kept0 hk
theorem RdCs.len {m : Mem} {ks : List Fk} {ds : List Fd} {xs : List AV} (h : RdCs m ks ds xs) : xs.length = ks.length ∧ ds.length = ks.length := by
  induction h with
  | nil => exact ⟨rfl, rfl⟩
  | cons _ _ ih => simp [ih.1, ih.2]
theorem RdCs.int {m : Mem} {k : IntKind} {ks : List Fk} {ds : List Fd} {xs : List AV} (h : RdCs m (.i k :: ks) ds xs) : ∃ n ds' xs', ds = .i n :: ds' ∧ xs = .int k n :: xs' ∧ (Lit.int k n).wf = true ∧ RdCs m ks ds' xs' := by
  cases h with
  | @cons _ d _ _ ds xs h1 h2 =>
    cases d with
    | i n => obtain ⟨rfl, hw⟩ := h1; exact ⟨n, ds, xs, rfl, rfl, hw, h2⟩
    | t b => exact h1.elim
    | b l => exact h1.elim
theorem RdCs.bytes {m : Mem} {ks : List Fk} {ds : List Fd} {xs : List AV} (h : RdCs m (.b :: ks) ds xs) : ∃ l ds' x xs', ds = .b l :: ds' ∧ xs = x :: xs' ∧ RdB m x l ∧ RdCs m ks ds' xs' := by
  cases h with
  | @cons _ d x _ ds xs h1 h2 =>
    cases d with
    | i n => exact h1.elim
    | t b => exact h1.elim
    | b l => exact ⟨l, ds, x, xs, rfl, rfl, h1, h2⟩
theorem RdCs.bool {m : Mem} {ks : List Fk} {ds : List Fd} {xs : List AV} (h : RdCs m (.t :: ks) ds xs) : ∃ b ds' xs', ds = .t b :: ds' ∧ xs = .bool b :: xs' ∧ RdCs m ks ds' xs' := by
  cases h with
  | @cons _ d _ _ ds xs h1 h2 =>
    cases d with
    | i n => exact h1.elim
    | t b => obtain rfl := h1; exact ⟨b, ds, xs, rfl, rfl, h2⟩
    | b l => exact h1.elim
theorem RdCs.none {m : Mem} {ds : List Fd} {xs : List AV} (h : RdCs m [] ds xs) : ds = [] ∧ xs = [] := by cases h; exact ⟨rfl, rfl⟩

def fkGo (P : Program) (f : TypeId → Option (List Fk)) : Nat → List Field → Option (List Fk)
  | _, [] => some []
  | off, x :: r => (f x.type).bind fun ks => if x.offset = off ∧ P.cellsOf x.type = ks.length then (fkGo P f (off + ks.length) r).map (ks ++ ·) else none
/-- A type whose cells are integers, bools and lists of bytes: which. -/
def fkCells (P : Program) : Nat → TypeId → Option (List Fk)
  | 0, _ => none
  | d + 1, t =>
    match P.underlying t with
    | some (.int k) => some [.i k]
    | some .bool => some [.t]
    | some (.slice e) => match P.underlying e with
      | some (.int .u8) => if P.cellsOf e = 1 then some [.b] else none
      | _ => none
    | some (.array n e) => (fkCells P d e).bind fun ks => if P.cellsOf e = ks.length ∧ P.cellsOf t = n * ks.length then some ((List.replicate n ks).flatten) else none
    | some (.struct fs) => (fkGo P (fkCells P d) 0 fs.toList).bind fun ks => if P.cellsOf t = ks.length then some ks else none
    | _ => none

/-- Some block of the world's memory is one of cells. -/
def CellsLive (W : World) : Prop := ∃ (B : Nat) (C : Array Value) (e : TypeId) (fz : Nat × Nat), W.heap[B]? = some (.cells C e fz)
theorem cell_at {W : World} {a : Addr} {v : Value} (h : W.cell? a = some v) : a.spot = none ∧ ∃ C e fz, W.heap[a.block]? = some (.cells C e fz) := by
  unfold World.cell? at h
  split at h
  · rename_i c e fz hb
    split at h
    · cases h
    · rename_i hs
      exact ⟨by simpa using hs, _, _, _, hb⟩
  · cases h
theorem cell_at0 {W : World} {a : Addr} {v : Value} (h : W.cell? (a.add 0) = some v) : a.spot = none ∧ ∃ C e fz, W.heap[a.block]? = some (.cells C e fz) := by
  have := cell_at h
  simpa [Addr.add] using this

/-- An empty slice that is not nil: wherever it points. -/
theorem St.slice0 {m : Mem} {ρ : LMap} {W : World} (h : St m ρ W) (hl : CellsLive W) (a : Option Addr) (ha : a ≠ none) :
    ∃ ρ', St (m ++ [.row [] true]) ρ' W ∧ Sub ρ ρ' ∧ VR ρ' (.sl m.length 0 0 0 0) (.slice a 0 0) := by
  obtain ⟨B, C, e, fz, hB⟩ := hl
  obtain ⟨a, rfl⟩ := Option.ne_none_iff_exists'.mp ha
  have hr : RowAt ρ W ⟨B, 0, C.size⟩ [] true := ⟨⟨C, e, fz, hB, rfl, by simp, fun i v hv => by simp at hv, fun h => by cases h⟩, rfl⟩
  obtain ⟨h1, h2⟩ := h.push hr
  exact ⟨_, h1, h2, .sl (upd_same _ _ _) (Nat.le_refl _) fun hc => by omega⟩

/-- One cell, opened. -/
def Op1 (W : World) (k : Fk) (d : Fd) (c : Value) : Prop :=
  (∀ a len cap, c = .slice (some a) len cap → CellsLive W) →
  ∀ m ρ, St m ρ W → ∃ e ρ' x, St (m ++ e) ρ' W ∧ Sub ρ ρ' ∧ VR ρ' x c ∧ x.flat = true ∧ ∀ e', RdC (m ++ e ++ e') k d x
structure Ops (W : World) (ks : List Fk) (ds : List Fd) (cs : List Value) : Prop where
  lc : cs.length = ks.length
  ld : ds.length = ks.length
  at_ : ∀ (i : Nat) k d c, ks[i]? = some k → ds[i]? = some d → cs[i]? = some c → Op1 W k d c
theorem Ops.append {W : World} {k1 k2 : List Fk} {d1 d2 : List Fd} {c1 c2 : List Value} (h1 : Ops W k1 d1 c1) (h2 : Ops W k2 d2 c2) : Ops W (k1 ++ k2) (d1 ++ d2) (c1 ++ c2) := by
  refine ⟨by simp [h1.lc, h2.lc], by simp [h1.ld, h2.ld], fun i k d c hk hd hc => ?_⟩
  by_cases hi : i < k1.length
  · rw [List.getElem?_append_left hi] at hk
    rw [List.getElem?_append_left (by rw [h1.ld]; exact hi)] at hd
    rw [List.getElem?_append_left (by rw [h1.lc]; exact hi)] at hc
    exact h1.at_ i k d c hk hd hc
  · rw [List.getElem?_append_right (by omega)] at hk
    rw [List.getElem?_append_right (by rw [h1.ld]; omega), h1.ld] at hd
    rw [List.getElem?_append_right (by rw [h1.lc]; omega), h1.lc] at hc
    exact h2.at_ _ k d c hk hd hc
theorem Ops.nil (W : World) : Ops W [] [] [] := ⟨rfl, rfl, fun _ _ _ _ h => nomatch h⟩
theorem Ops.one {W : World} {k : Fk} {d : Fd} {c : Value} (h : Op1 W k d c) : Ops W [k] [d] [c] :=
  ⟨rfl, rfl, fun i k' d' c' h1 h2 h3 => by
    cases i with
    | zero => simp at h1 h2 h3; subst h1; subst h2; subst h3; exact h
    | succ i => simp at h1⟩
theorem Ops.tail {W : World} {k : Fk} {ks : List Fk} {ds : List Fd} {cs : List Value} (h : Ops W (k :: ks) ds cs) : ∃ d ds' c cs', ds = d :: ds' ∧ cs = c :: cs' ∧ Op1 W k d c ∧ Ops W ks ds' cs' := by
  obtain ⟨lc, ld, at_⟩ := h
  cases ds with
  | nil => simp at ld
  | cons d ds =>
    cases cs with
    | nil => simp at lc
    | cons c cs =>
      refine ⟨d, ds, c, cs, rfl, rfl, at_ 0 _ _ _ rfl rfl rfl, by simpa using lc, by simpa using ld, fun i k d c h1 h2 h3 => at_ (i + 1) k d c (by simpa using h1) (by simpa using h2) (by simpa using h3)⟩
theorem Ops.open_ {W : World} : ∀ {ks : List Fk} {ds : List Fd} {cs : List Value}, Ops W ks ds cs → (∀ a len cap, Value.slice (some a) len cap ∈ cs → CellsLive W) →
    ∀ m ρ, St m ρ W → ∃ e ρ' xs, St (m ++ e) ρ' W ∧ Sub ρ ρ' ∧ VRL ρ' xs cs ∧ xs.all AV.flat = true ∧ ∀ e', RdCs (m ++ e ++ e') ks ds xs := by
  intro ks
  induction ks with
  | nil =>
    intro ds cs h _ m ρ hs
    have h1 : ds = [] := List.length_eq_zero_iff.mp h.ld
    have h2 : cs = [] := List.length_eq_zero_iff.mp h.lc
    subst h1; subst h2
    exact ⟨[], ρ, [], by simpa using hs, .refl _, .nil, rfl, fun _ => .nil⟩
  | cons k ks ih =>
    intro ds cs h hl m ρ hs
    obtain ⟨d, ds, c, cs, rfl, rfl, h1, h2⟩ := h.tail
    obtain ⟨e1, ρ1, x, s1, u1, v1, f1, r1⟩ := h1 (fun a len cap hc => hl a len cap (by simp [hc])) m ρ hs
    obtain ⟨e2, ρ2, xs, s2, u2, v2, f2, r2⟩ := ih h2 (fun a len cap hc => hl a len cap (by simp [hc])) _ _ s1
    refine ⟨e1 ++ e2, ρ2, x :: xs, by rw [← List.append_assoc]; exact s2, u1.trans u2, .cons (v1.mono u2) v2, by simp [f1, f2], fun e' => .cons ?_ ?_⟩
    · rw [← List.append_assoc, List.append_assoc _ e2 e']; exact r1 _
    · rw [← List.append_assoc]; exact r2 _

/-- A list of records, as an argument: nil, or a slice of a block. -/
def IsRecs (ks : List Fk) (dss : List (List Fd)) (x : AV) (m : Mem) : Prop :=
  (x = .nils ∧ dss = []) ∨ ∃ b cap xs, x = .sl b 0 dss.length cap 0 ∧ rowOf m b = some xs ∧ RdCs m (List.replicate dss.length ks).flatten dss.flatten xs ∧ ∀ ds ∈ dss, ds.length = ks.length
section
variable {H : Type} {enc : TypeId × Value → H} {P : Program} {W : World}
theorem Op1.of_int {t : TypeId} {k : IntKind} {fuel : Nat} {cs : List Value} {held : Bool} {x : DataW H × List MemPlace} (ht : P.underlying t = some (.int k)) (h : DataW.trod enc P W 0 (fun _ => true) held fuel t cs = some x) : ∃ ds, Ops W [.i k] ds cs := by
  obtain ⟨n, rfl, _, hw⟩ := DataW.trod_int ht h
  exact ⟨[.i n], .one fun _ m ρ hs => ⟨[], ρ, .int k n, by simpa using hs, .refl _, .int _ _, rfl, fun _ => ⟨rfl, hw⟩⟩⟩
theorem Op1.of_bool {t : TypeId} {fuel : Nat} {cs : List Value} {held : Bool} {x : DataW H × List MemPlace} (ht : P.underlying t = some .bool) (h : DataW.trod enc P W 0 (fun _ => true) held fuel t cs = some x) : ∃ ds, Ops W [.t] ds cs := by
  cases fuel with
  | zero => simp [DataW.trod] at h
  | succ fuel =>
    unfold DataW.trod at h
    rw [ht] at h
    split at h <;> simp_all
    exact ⟨[.t _], .one fun _ m ρ hs => ⟨[], ρ, .bool _, by simpa using hs, .refl _, .bool _, rfl, fun _ => rfl⟩⟩
theorem Op1.of_bytes {t e : TypeId} {fuel : Nat} {cs : List Value} {held : Bool} {x : DataW H × List MemPlace} (ht : P.underlying t = some (.slice e)) (he : P.underlying e = some (.int .u8)) (hc : P.cellsOf e = 1)
    (h : DataW.trod enc P W 0 (fun _ => true) held fuel t cs = some x) : ∃ ds, Ops W [.b] ds cs := by
  rcases open_ints ht he hc h with ⟨rfl, _⟩ | ⟨a, len, cap, zs, rfl, _, hl, hm, hz, _, hcell, hwz⟩
  · exact ⟨[.b []], .one fun _ m ρ hs => ⟨[], ρ, .nils, by simpa using hs, .refl _, .nils, rfl, fun _ => .nils _⟩⟩
  · simp only [if_true] at hz
    by_cases hc0 : cap = 0
    · subst hc0
      obtain rfl : len = 0 := by omega
      refine ⟨[.b []], .one fun hlv m ρ hs => ?_⟩
      obtain ⟨ρ', h1, h2, h3⟩ := hs.slice0 (hlv a 0 0 rfl) (some a) (by simp)
      refine ⟨_, ρ', _, h1, h2, h3, rfl, fun e' => ?_⟩
      have : rowOf (m ++ [Blk.row [] true] ++ e') m.length = some (bys []) := by simp [rowOf, bys]
      exact RdB.row (l := []) 0 0 this (Nat.le_refl _)
    · refine ⟨[.b ((zs.take len).map toB)], .one fun _ m ρ hs => ?_⟩
      have hlen : (zs.take len).length = len := by simp; omega
      obtain ⟨g0, g0'⟩ := cell_at0 (hcell 0 (by omega))
      have hw : ∀ n ∈ zs.take len, (Lit.int .u8 n).wf = true := fun n hn => hwz n (List.mem_of_mem_take hn)
      obtain ⟨ρ', g1, g2, g3⟩ := hs.slice (cells := bys ((zs.take len).map toB)) g0 g0' hl (by rw [bys, List.all_map, List.all_eq_true]; intro x _; rfl) (fun hc => by omega)
        (fun hc => ⟨_, hcell 0 (by omega)⟩) (fun i v hv => by
          rw [← map_toB hw] at hv
          simp only [List.getElem?_map, Option.map_eq_some_iff] at hv
          obtain ⟨n, hn, rfl⟩ := hv
          have hi := lt_of_get hn
          rw [hlen] at hi
          refine ⟨_, hcell i (by omega), ?_⟩
          have : zs.getD i 0 = n := by
            rw [List.getElem?_take_of_lt hi] at hn
            simp [hn]
          rw [this]; exact .int _ _)
      refine ⟨_, ρ', _, g1, g2, g3, rfl, fun e' => ?_⟩
      have h1 : rowOf (m ++ [Blk.row (bys ((zs.take len).map toB)) true] ++ e') m.length = some (bys ((zs.take len).map toB)) := by simp [rowOf]
      have := RdB.row cap 0 h1 (by simp; omega)
      rwa [List.length_map, hlen] at this

theorem ops_of_trod {held : Bool} : ∀ (d : Nat) (t : TypeId) (ks : List Fk) (fuel : Nat) (cs : List Value) (x : DataW H × List MemPlace),
    fkCells P d t = some ks → DataW.trod enc P W 0 (fun _ => true) held fuel t cs = some x → ∃ ds, Ops W ks ds cs := by
  intro d
  induction d with
  | zero => intro t ks fuel cs x h; simp [fkCells] at h
  | succ d ih =>
    intro t ks fuel cs x h hx
    unfold fkCells at h
    split at h
    · rename_i k ht
      cases h
      exact Op1.of_int ht hx
    · rename_i ht
      cases h
      exact Op1.of_bool ht hx
    · rename_i e ht
      split at h
      · rename_i he
        split at h
        · rename_i hc
          cases h
          exact Op1.of_bytes ht he hc hx
        · cases h
      · cases h
    · rename_i n e ht
      obtain ⟨xs, m, rfl, rfl, hlen, hxs, hel⟩ := DataW.trod_array ht hx
      simp only [Option.bind_eq_some_iff] at h
      obtain ⟨ke, he, h⟩ := h
      split at h
      · rename_i hc
        cases h
        rw [hc.1] at hel
        have key : ∀ j, j ≤ n → ∃ ds, Ops W ((List.replicate j ke).flatten) ds (cs.take (j * ke.length)) := by
          intro j
          induction j with
          | zero => intro _; exact ⟨[], by simpa using Ops.nil W⟩
          | succ j ihj =>
            intro hj
            obtain ⟨ns, hns⟩ := ihj (by omega)
            have h1 := hel j (by omega)
            obtain ⟨y, hy⟩ : ∃ y, xs[j]? = some y := ⟨_, List.getElem?_eq_getElem (by omega)⟩
            rw [hy] at h1
            obtain ⟨ns', hns'⟩ := ih e ke m _ y he h1
            have e1 : (List.replicate (j + 1) ke).flatten = (List.replicate j ke).flatten ++ ke := by
              rw [List.replicate_succ', List.flatten_append]; simp
            have e2 : cs.take ((j + 1) * ke.length) = cs.take (j * ke.length) ++ (cs.drop (j * ke.length)).take ke.length := by
              rw [Nat.add_mul, Nat.one_mul, List.take_add]
            rw [e1, e2]
            exact ⟨_, hns.append hns'⟩
        obtain ⟨ns, hns⟩ := key n (Nat.le_refl _)
        rw [List.take_of_length_le (by rw [hlen, hc.2]; exact Nat.le_refl _)] at hns
        exact ⟨ns, hns⟩
      · cases h
    · rename_i fs ht
      obtain ⟨xs, m, rfl, rfl, hlen, hxs, hel⟩ := DataW.trod_struct ht hx
      simp only [Option.bind_eq_some_iff] at h
      obtain ⟨kg, hg, h⟩ := h
      split at h
      · rename_i hc
        cases h
        have key : ∀ (r : List Field) (i off : Nat) (kr : List Fk), (∀ (j : Nat) (f : Field), r[j]? = some f → fs[i + j]? = some f) → fkGo P (fkCells P d) off r = some kr → ∃ ds, Ops W kr ds ((cs.drop off).take kr.length) := by
          intro r
          induction r with
          | nil => intro i off kr _ h; simp only [fkGo, Option.some.injEq] at h; subst h; exact ⟨[], by simpa using Ops.nil W⟩
          | cons f r ihr =>
            intro i off kr hr h
            simp only [fkGo, Option.bind_eq_some_iff] at h
            obtain ⟨kf, hf, h⟩ := h
            split at h
            · rename_i hc2
              simp only [Option.map_eq_some_iff] at h
              obtain ⟨k2, h2, rfl⟩ := h
              have hfi := hr 0 f rfl
              simp only [Nat.add_zero] at hfi
              have h1 := hel i f hfi
              have hi : i < fs.size := (Array.getElem?_eq_some_iff.mp hfi).1
              obtain ⟨y, hy⟩ : ∃ y, xs[i]? = some y := ⟨_, List.getElem?_eq_getElem (by omega)⟩
              rw [hy, hc2.1, hc2.2] at h1
              obtain ⟨n1, hn1⟩ := ih f.type kf m _ y hf h1
              obtain ⟨n2, hn2⟩ := ihr (i + 1) (off + kf.length) k2 (fun j f' hj => by have := hr (j + 1) f' (by simpa using hj); rwa [show i + (j + 1) = i + 1 + j by omega] at this) h2
              have e2 : (cs.drop off).take (kf ++ k2).length = (cs.drop off).take kf.length ++ (cs.drop (off + kf.length)).take k2.length := by
                rw [List.length_append, List.take_add, List.drop_drop]
              rw [e2]
              exact ⟨_, hn1.append hn2⟩
            · cases h
        obtain ⟨ns, hns⟩ := key fs.toList 0 0 ks (fun j f hj => by simpa using hj) hg
        rw [List.drop_zero, List.take_of_length_le (by rw [hlen, hc]; exact Nat.le_refl _)] at hns
        exact ⟨ns, hns⟩
      · cases h
    · cases h

theorem okWide_live {P : Program} {W : World} {r : Reach} {b0 : Nat} {u : TypeId} {a : Addr} {len cap : Nat} (h : Cell.okWide P W r b0 u (.slice (some a) len cap)) : CellsLive W := by
  unfold Cell.okWide at h
  cases hu : P.underlying u with
  | none => simp [hu, Cell.ok] at h
  | some d =>
    cases d <;> simp only [hu, Cell.ok] at h
    obtain ⟨_, _, _, h1, row, cells, h2, _⟩ := h
    unfold World.shape? at h2
    split at h2
    · exact ⟨_, _, _, _, by assumption⟩
    · cases h2
/-- A struct by value. -/
theorem Opens.cells {b0 : Nat} {t : TypeId} {d0 : Nat} {ks : List Fk} {v : Value} {d : DataW H} {ps : List MemPlace} (ha : aggD P t = some true) (he : fkCells P d0 t = some ks)
    (hval : Value.okWide P W .any b0 t v) (h : DataW.Trod enc P W 0 (fun _ => true) true t v d ps) : ∃ ds, Opens W (fun x m => ∃ xs, x = .agg xs ∧ RdCs m ks ds xs) v := by
  obtain ⟨cs, rfl, hok⟩ : ∃ cs, v = .agg cs ∧ Row.okWide P W .any b0 t cs := by
    unfold aggD at ha
    unfold Value.okWide at hval
    split at ha
    · rename_i fs hu; simp only [hu] at hval; obtain ⟨cs, h, _, h'⟩ := hval; exact ⟨cs, h, h'⟩
    · rename_i n e hu; simp only [hu] at hval; obtain ⟨cs, h, _, h'⟩ := hval; exact ⟨cs, h, h'⟩
    · cases ha
    · cases ha
  obtain ⟨fuel, hf⟩ := h
  obtain ⟨ds, hds⟩ := ops_of_trod d0 t ks fuel _ _ he hf
  simp only [Value.cells] at hds
  refine ⟨ds, fun m ρ hs => ?_⟩
  obtain ⟨e, ρ', xs, h1, h2, h3, h4, h5⟩ := hds.open_ (fun a len cap hc => by
    obtain ⟨ts, _, _, hat⟩ := hok
    obtain ⟨i, hi⟩ := List.getElem?_of_mem hc
    obtain ⟨u, _, hu⟩ := hat i _ (by simpa using hi)
    exact okWide_live hu) m ρ hs
  refine ⟨e, ρ', .agg xs, h1, h2, .agg (by simpa using h3.length) h4 fun i x y hx hy => h3.get i x y hx (by simpa using hy), fun e' => ⟨xs, rfl, h5 e'⟩⟩

theorem Opens.recs {r : Reach} {b0 : Nat} {t e : TypeId} {d0 : Nat} {ks : List Fk} {v : Value} {d : DataW H} {ps : List MemPlace} (ht : P.underlying t = some (.slice e)) (he : fkCells P d0 e = some ks) (hc : P.cellsOf e = ks.length) (hpos : 0 < ks.length)
    (hval : Value.okWide P W r b0 t v) (h : DataW.Trod enc P W 0 (fun _ => true) true t v d ps) :
    ∃ dss : List (List Fd), Opens W (IsRecs ks dss) v := by
  obtain ⟨a, len, cap, rfl⟩ := okWide_slice ht hval
  obtain ⟨fuel, hf⟩ := h
  rcases DataW.trod_slice ht hf with ⟨hcs, _⟩ | ⟨x, l, c, elems, rest, n, _, hcs, _, _, hl, hm, hlen, hel, hsp, hns⟩
  · simp [Value.cells] at hcs
    obtain ⟨rfl, rfl, rfl⟩ := hcs
    exact ⟨[], fun m ρ hs => ⟨[], ρ, .nils, by simpa using hs, .refl _, .nils, fun _ => .inl ⟨rfl, rfl⟩⟩⟩
  · simp [Value.cells] at hcs
    obtain ⟨rfl, rfl, rfl⟩ := hcs
    obtain ⟨h1, h2⟩ := okWide_slice_at ht hval
    rw [hc] at hel hsp
    have hadd : ∀ i j, (x.add i).add j = x.add (i + j) := by
      intro i j
      cases x; simp only at h1; subst h1
      unfold Addr.add
      split <;> split <;> split <;> simp_all <;> omega
    have cell : ∀ i, i < len → ∃ (ds : List Fd) (cs : List Value), W.cells? 0 (x.add (i * ks.length)) ks.length = some cs ∧ Ops W ks ds cs := by
      intro i hi
      have h := hel i hi
      obtain ⟨y, hy⟩ : ∃ y, elems[i]? = some y := ⟨_, List.getElem?_eq_getElem (by omega)⟩
      rw [hy, Option.bind_eq_some_iff] at h
      obtain ⟨cs, hcs, htr⟩ := h
      obtain ⟨ns, hns⟩ := ops_of_trod d0 e ks n cs y he htr
      exact ⟨ns, cs, hcs, hns⟩
    have build : ∀ j, j ≤ len → ∃ (dss : List (List Fd)) (cs : List Value), dss.length = j ∧ (∀ ds ∈ dss, ds.length = ks.length) ∧ Ops W (List.replicate j ks).flatten dss.flatten cs ∧ cs.length = j * ks.length ∧
        ∀ i, i < j * ks.length → W.cell? (x.add i) = cs[i]? := by
      intro j
      induction j with
      | zero => intro _; exact ⟨[], [], rfl, (fun ds h => by cases h), by simpa using Ops.nil W, by simp, fun i hi => by simp at hi⟩
      | succ j ihj =>
        intro hj
        obtain ⟨dss, cs, e1, e2, e3, e4, e5⟩ := ihj (by omega)
        obtain ⟨ds, cs', g1, g2⟩ := cell j (by omega)
        have hcl : cs'.length = ks.length := g2.lc
        refine ⟨dss ++ [ds], cs ++ cs', by simp [e1], fun d hd => ?_, ?_, by simp [e4, hcl, Nat.add_mul], fun i hi => ?_⟩
        · rcases List.mem_append.mp hd with hd | hd
          · exact e2 d hd
          · simp at hd; subst hd; exact g2.ld
        · have e6 : (List.replicate (j + 1) ks).flatten = (List.replicate j ks).flatten ++ ks := by
            rw [List.replicate_succ', List.flatten_append]; simp
          have e7 : (dss ++ [ds]).flatten = dss.flatten ++ ds := by simp
          rw [e6, e7]
          exact e3.append g2
        · by_cases hij : i < j * ks.length
          · rw [List.getElem?_append_left (by omega)]; exact e5 i hij
          · obtain ⟨_, q1, q2⟩ := World.cells?_some g1
            have := q2 (i - j * ks.length) (by rw [Nat.add_mul] at hi; omega)
            rw [hadd, show j * ks.length + (i - j * ks.length) = i by omega] at this
            rw [List.getElem?_append_right (by omega), e4]
            exact this
    obtain ⟨dss, cs, e1, e2, e3, e4, e5⟩ := build len (Nat.le_refl _)
    refine ⟨dss, fun m ρ hs => ?_⟩
    obtain ⟨C0, E0, F0, hB⟩ := h2
    obtain ⟨ex, ρ1, xs, s1, u1, v1, f1, r1⟩ := e3.open_ (fun _ _ _ _ => ⟨_, _, _, _, hB⟩) m ρ hs
    have hxl : xs.length = len * ks.length := by rw [v1.length, e4]
    obtain ⟨ρ', g1, g2, g3⟩ := s1.slice (cells := xs) h1 ⟨_, _, _, hB⟩ hl f1
      (fun hc0 => List.length_eq_zero_iff.mp (by rw [hxl, show len = 0 by omega, Nat.zero_mul]))
      (fun hc0 => by
        by_cases hl0 : 0 < len
        · have h0 : 0 < len * ks.length := Nat.mul_pos hl0 hpos
          have := e5 0 h0
          rw [List.getElem?_eq_getElem (by omega)] at this
          exact ⟨_, this⟩
        · obtain ⟨hrl, hr⟩ := hsp rfl
          have h := hr 0 (by omega)
          obtain ⟨y, hy⟩ : ∃ y, rest[0]? = some y := ⟨_, List.getElem?_eq_getElem (by omega)⟩
          rw [hy, Option.bind_eq_some_iff] at h
          obtain ⟨cs, hcs, _⟩ := h
          obtain ⟨_, q1, q2⟩ := World.cells?_some hcs
          have := q2 0 hpos
          rw [hadd, show (len + 0) * ks.length + 0 = 0 by have : len = 0 := by omega
                                                          subst this; simp] at this
          exact ⟨cs[0]'(by omega), by rw [this]; exact List.getElem?_eq_getElem _⟩)
      (fun i v hv => by
        have hi := lt_of_get hv
        have hc1 : cs[i]? = some (cs[i]'(by omega)) := List.getElem?_eq_getElem _
        exact ⟨_, (e5 i (by omega)).trans hc1, v1.get i v _ hv hc1⟩)
    refine ⟨ex ++ [.row xs true], ρ', _, by rw [← List.append_assoc]; exact g1, u1.trans g2, g3, fun e' => .inr ⟨(m ++ ex).length, cap, xs, by rw [e1], ?_, ?_, e2⟩⟩
    · rw [← List.append_assoc]; simp [rowOf]
    · rw [e1]
      have := r1 ([.row xs true] ++ e')
      simpa only [List.append_assoc] using this
end
/-- Lists of lists of bytes. -/
def RdLs (m : Mem) (x : AV) (L : List (List B8)) : Prop :=
  (x = .nils ∧ L = []) ∨ ∃ b cap hs, x = .sl b 0 L.length cap 0 ∧ rowOf m b = some hs ∧ hs.length = L.length ∧ ∀ (i : Nat) h l, hs[i]? = some h → L[i]? = some l → RdB m h l
theorem RdLs.kept0 {m m' : Mem} {x : AV} {L : List (List B8)} (h : RdLs m x L) (hk : Kept [] m m') : RdLs m' x L := by
  rcases h with h | ⟨b, cap, hs, h1, h2, h3, h4⟩
  · exact .inl h
  · exact .inr ⟨b, cap, hs, h1, hk.row0 h2, h3, fun i h l g1 g2 => (h4 i h l g1 g2).kept0 hk⟩
theorem RdLs.len {m : Mem} {x : AV} {L : List (List B8)} (h : RdLs m x L) : pLen [x] = some (.int .i64 L.length) := by
  rcases h with ⟨rfl, rfl⟩ | ⟨b, cap, _, rfl, _⟩ <;> rfl
def Fd.bytes : List Fd → List B8
  | [.b l] => l
  | _ => []
theorem IsRecs.lists {m : Mem} {x : AV} {dss : List (List Fd)} (h : IsRecs [.b] dss x m) : RdLs m x (dss.map Fd.bytes) := by
  rcases h with ⟨rfl, rfl⟩ | ⟨b, cap, xs, rfl, h2, h3, h4⟩
  · exact .inl ⟨rfl, rfl⟩
  · have key : ∀ (dss : List (List Fd)) (xs : List AV), (∀ ds ∈ dss, ds.length = [Fk.b].length) → RdCs m (List.replicate dss.length [Fk.b]).flatten dss.flatten xs →
        xs.length = dss.length ∧ ∀ (i : Nat) h l, xs[i]? = some h → (dss.map Fd.bytes)[i]? = some l → RdB m h l := by
      intro dss
      induction dss with
      | nil => intro xs _ h; obtain ⟨_, rfl⟩ := h.none; exact ⟨rfl, fun i h l h1 => by simp at h1⟩
      | cons d r ih =>
        intro xs hl h
        have hd := hl d (by simp)
        match d, hd with
        | [y], _ =>
          simp only [List.length_cons, List.replicate_succ, List.flatten_cons, List.singleton_append] at h
          obtain ⟨l, ds', x, xs', e1, rfl, hx, h'⟩ := h.bytes
          cases e1
          obtain ⟨i1, i2⟩ := ih xs' (fun ds h => hl ds (by simp [h])) h'
          refine ⟨by simp [i1], fun i h l' g1 g2 => ?_⟩
          cases i with
          | zero => simp [Fd.bytes] at g1 g2; subst g1; subst g2; exact hx
          | succ i => exact i2 i h l' (by simpa using g1) (by simpa using g2)
    obtain ⟨k1, k2⟩ := key dss xs h4 h3
    exact .inr ⟨b, cap, xs, by simp, h2, by simpa using k1, k2⟩
/-- A struct {int, int, []byte} by value. -/
theorem Opens.iib {W : World} {ds : List Fd} {v : Value} {k1 k2 : IntKind} (h : Opens W (fun x m => ∃ xs, x = .agg xs ∧ RdCs m [.i k1, .i k2, .b] ds xs) v) :
    ∃ e n l, Opens W (fun x m => ∃ y, x = .agg [.int k1 e, .int k2 n, y] ∧ RdB m y l) v := by
  by_cases hx : ∃ e n l, ds = [.i e, .i n, .b l]
  · obtain ⟨e, n, l, rfl⟩ := hx
    refine ⟨e, n, l, h.imp fun x m ρ _ hq => ?_⟩
    obtain ⟨xs, rfl, h⟩ := hq
    obtain ⟨n1, d1, x1, e1, rfl, _, h⟩ := h.int
    obtain ⟨n2, d2, x2, e2, rfl, _, h⟩ := h.int
    simp only [List.cons.injEq, Fd.i.injEq] at e1 e2
    obtain ⟨rfl, e1⟩ := e1
    subst e1
    simp only [List.cons.injEq, Fd.i.injEq] at e2
    obtain ⟨rfl, e2⟩ := e2
    subst e2
    obtain ⟨l', d3, y, x3, e3, rfl, hb, h⟩ := h.bytes
    simp only [List.cons.injEq, Fd.b.injEq] at e3
    obtain ⟨rfl, rfl⟩ := e3
    obtain ⟨_, rfl⟩ := h.none
    exact ⟨y, rfl, hb⟩
  · refine ⟨0, 0, [], h.imp fun x m ρ _ hq => (hx ?_).elim⟩
    obtain ⟨xs, rfl, h⟩ := hq
    obtain ⟨n1, d1, x1, rfl, rfl, _, h⟩ := h.int
    obtain ⟨n2, d2, x2, rfl, rfl, _, h⟩ := h.int
    obtain ⟨l', d3, y, x3, rfl, rfl, hb, h⟩ := h.bytes
    obtain ⟨rfl, rfl⟩ := h.none
    exact ⟨_, _, _, rfl⟩
end Go.Adm
end
section
/- Frames cut ahead of a loop. -/
namespace Go.Adm
variable {P : Program}
def recutOkL (L : List Nat) : ACode → Bool
  | .ops ks l => cutOk L ks l
  | .drawn ks l => cutOk L ks l
  | .seq a _ => recutOkL L a
  | .block _ a => recutOkL L a
  | .loop ks _ => ks.all fun k => L.contains k
  | _ => false
theorem wp_recutL (L : List Nat) : ∀ {c : ACode} {t : AFr} {m : Mem} {Q : Exit → AFr → Mem → Prop}, recutOkL L c = true → wpA P c (t.cut L) m Q → wpA P c t m Q := by
  intro c
  induction c with
  | ops ks l => intro t m Q h hw; exact wp_recut L (c := .ops ks l) h hw
  | drawn ks l => intro t m Q h hw; exact wp_recut L (c := .drawn ks l) h hw
  | seq a b iha _ => intro t m Q h hw; exact iha h hw
  | block i a ih => intro t m Q h hw; exact ih h hw
  | loop ks a _ =>
    intro t m Q h hw X hX
    have hc : (t.cut L).cut ks = t.cut ks := cut_same (cut_le L t) ks fun k hk => by simpa using List.all_eq_true.mp h k hk
    have hw' : LoopW ks (wpA P a) (t.cut L) m Q := hw
    exact hw' (fun t' m' => ∀ t'', t''.cut ks = t'.cut ks → X t'' m') (fun t' m' hb t'' e => hX t'' m' (by rw [e]; exact wpA_mono _ _ _ _ _ hb (loopQ_mono (fun _ _ h => h _ rfl) fun _ _ _ h => h))) t hc.symm
  | _ => intro t m Q h; cases h
/-- As wp_join2, where a loop may follow at once. -/
theorem wp_joinL {a b : ACode} {t : AFr} {m : Mem} {Q : Exit → AFr → Mem → Prop} (L : List Nat) {σ : Type} (fr : σ → AFr) (J : σ → Mem → Prop) (hc : recutOkL L b = true)
    (h1 : wpA P a t m (joinQ (fun t m => ∃ s, t.cut L = fr s ∧ J s m) Q)) (h2 : ∀ s m, J s m → wpA P b (fr s) m Q) : wpA P a t m (seqK P b Q) :=
  wp_join _ h1 fun _ m ⟨s, e, h⟩ => wp_recutL L hc (e ▸ h2 s m h)
end Go.Adm
end
section
/- Rules for maps, strings of bytes, capacities. -/
namespace Go.Adm
set_option linter.defProp false
def mapR := And.intro @opW_b2s (And.intro @opDW_b2s (And.intro @opW_lenMap (And.intro @opDW_lenMap (And.intro @opW_lookup (And.intro @opDW_lookup (And.intro @opW_mkMap (And.intro @opDW_mkMap (And.intro @opW_mapSet (And.intro @opDW_mapSet (And.intro @opW_cap (And.intro @opDW_cap (And.intro @rgD_r (And.intro @opW_appendZ @opDW_appendZ)))))))))))))

/-- A list of bytes as a string. -/
def strOf (l : List B8) : ByteArray := ⟨(l.map fun b => UInt8.ofBitVec b).toArray⟩
theorem strOf_inj {a b : List B8} (h : strOf a = strOf b) : a = b := by
  have h1 : (a.map fun b => UInt8.ofBitVec b).toArray = (b.map fun b => UInt8.ofBitVec b).toArray := by
    have := congrArg ByteArray.data h
    exact this
  have h2 := congrArg Array.toList h1
  simp only at h2
  have h3 := congrArg (List.map UInt8.toBitVec) h2
  simpa [List.map_map, Function.comp_def] using h3
theorem strOf_beq (a b : List B8) : (strOf a == strOf b) = (a == b) := by
  rw [Bool.eq_iff_iff, MapKept.bytes_beq, beq_iff_eq]
  exact ⟨strOf_inj, fun h => by rw [h]⟩
theorem bytesA_bys (l : List B8) : bytesA (bys l) = some (l.map fun b => UInt8.ofBitVec b) := by
  induction l with
  | nil => rfl
  | cons a l ih =>
    show (bytesA (l.map b8)).map _ = _
    rw [ih]
    simp only [Option.map_some, List.map_cons, Int.toNat_natCast]
    congr 2
    apply UInt8.toBitVec_inj.mp
    simp
theorem RdB.b2s {m : Mem} {x : AV} {l : List B8} (h : RdB m x l) : rB2s m [x] = some (.str (strOf l)) := by
  have he := h.elems
  rcases h with ⟨rfl, rfl⟩ | ⟨b, o, cap, s, c, rfl, h2, h3, h4, h5, h6⟩
  · rfl
  · simp only [rB2s, he, Option.bind_some, bytesA_bys, Option.map_some, strOf]
/-- Lists of bytes, one behind the other, told by slices. -/
def RdL (m : Mem) (xs : List AV) (ls : List (List B8)) : Prop := xs.length = ls.length ∧ ∀ (i : Nat) (l : List B8), ls[i]? = some l → ∃ x, xs[i]? = some x ∧ RdB m x l
theorem RdL.nil (m : Mem) : RdL m [] [] := ⟨rfl, fun i l h => by simp at h⟩
theorem RdL.cons {m : Mem} {x : AV} {l : List B8} {xs : List AV} {ls : List (List B8)} (h : RdB m x l) (hs : RdL m xs ls) : RdL m (x :: xs) (l :: ls) := by
  refine ⟨by simp [hs.1], fun i l' hl => ?_⟩
  cases i with
  | zero => cases hl; exact ⟨x, rfl, h⟩
  | succ i => exact hs.2 i l' (by simpa using hl)
theorem RdL.kept0 {m m' : Mem} {xs : List AV} {ls : List (List B8)} (h : RdL m xs ls) (hk : Kept [] m m') : RdL m' xs ls :=
  ⟨h.1, fun i l hl => let ⟨x, a, b⟩ := h.2 i l hl; ⟨x, a, b.kept0 hk⟩⟩
theorem flat_take {ls : List (List B8)} {i : Nat} {l : List B8} (h : ls[i]? = some l) : (ls.take (i + 1)).flatten = (ls.take i).flatten ++ l := by
  rw [List.take_add_one, h]; simp
theorem flat_len {ls : List (List B8)} (i : Nat) : (ls.take i).flatten.length ≤ ls.flatten.length := by
  have : ls.flatten = (ls.take i).flatten ++ (ls.drop i).flatten := by rw [← List.flatten_append, List.take_append_drop]
  rw [this, List.length_append]; omega
theorem rd_one {m : Mem} {x : AV} {l : List B8} (h : RdB m x l) : cellsV x = [x] ∧ x.solid = true := by
  rcases h with ⟨rfl, _⟩ | ⟨b, o, cap, s, c, rfl, _⟩ <;> exact ⟨rfl, rfl⟩
theorem gr_one {sz m0 : Nat} {m : Mem} {x : AV} {c : List AV} (h : GrA sz m0 m x c) : cellsV x = [x] ∧ x.solid = true := by
  rcases h with ⟨_, rfl | ⟨b, rfl, _⟩⟩ | ⟨b, n, _, _, rfl, _⟩ <;> exact ⟨rfl, rfl⟩
/-- Bytes under way in a block with room for n. -/
def Room (m0 : Nat) (m : Mem) (x : AV) (l : List B8) (n : Nat) : Prop :=
  (n = 0 ∧ x = .nils ∧ l = []) ∨ (0 < n ∧ ∃ p, x = .sl p 0 l.length n 1 ∧ own m p = some (bys (l ++ List.replicate (n - l.length) 0#8)) ∧ m0 ≤ p ∧ l.length ≤ n)
theorem Room.push {m0 n : Nat} {m : Mem} {x y : AV} {l l2 : List B8} (h : Room m0 m x l n) (hy : RdB m y l2) (hb : l.length + l2.length ≤ n) :
    ∃ x' m', aAppend 1 1 x y m = some (x', m') ∧ Room m0 m' x' (l ++ l2) n ∧ Kept (blkOf x) m m' := by
  by_cases h2 : l2.length = 0
  · obtain rfl : l2 = [] := List.length_eq_zero_iff.mp h2
    refine ⟨x, m, app_none (by rw [hy.lenA]; rfl) ?_, by rwa [List.append_nil], .refl _ _⟩
    rcases h with ⟨_, rfl, _⟩ | ⟨_, p, rfl, _⟩ <;> rfl
  · rcases h with ⟨rfl, rfl, rfl⟩ | ⟨hn, p, rfl, ho, hp, hl⟩
    · have := hb; simp only [List.length_nil] at this; omega
    · refine ⟨.sl p 0 (l.length + l2.length) n 1, m.set p (.row (bys (l ++ l2 ++ List.replicate (n - (l.length + l2.length)) 0#8)) false), ?_, .inr ⟨hn, p, by simp, ?_, hp, by simpa using hb⟩, .set1 _ _ _⟩
      · unfold aAppend
        simp only [hy.lenA, Option.bind_some, if_neg h2, hy.elems, if_pos hb, ho, Nat.mul_one, Nat.zero_add]
        rw [if_pos ⟨by simp; omega, by simp⟩]
        congr 3
        congr 1
        rw [splice]
        show List.take l.length ((l ++ List.replicate (n - l.length) 0#8).map b8) ++ l2.map b8 ++ List.drop (l.length + (l2.map b8).length) ((l ++ List.replicate (n - l.length) 0#8).map b8) = _
        rw [← List.map_take, ← List.map_drop, ← List.map_append, ← List.map_append, List.take_left' rfl, List.length_map, List.drop_append, List.drop_replicate, List.drop_of_length_le (by omega), List.nil_append, show n - l.length - (l.length + l2.length - l.length) = n - (l.length + l2.length) by omega]
      · rw [own_set (own_lt ho)]; simp
theorem Room.all {m0 n : Nat} {m : Mem} {x : AV} {l : List B8} (h : Room m0 m x l n) (hl : l.length = n) : GrB m0 m x l := by
  rcases h with ⟨rfl, rfl, rfl⟩ | ⟨hn, p, rfl, ho, hp, _⟩
  · exact .nils ..
  · subst hl
    rw [Nat.sub_self] at ho
    simp only [List.replicate_zero, List.append_nil] at ho
    exact .inr ⟨p, l.length, hn, by simp, rfl, ho, hp⟩
theorem Room.kept {m0 n : Nat} {X : List Nat} {m m' : Mem} {x : AV} {l : List B8} (h : Room m0 m x l n) (hk : Kept X m m') (hx : ∀ b ∈ blkOf x, b ∉ X) : Room m0 m' x l n := by
  rcases h with h | ⟨hn, p, rfl, ho, hp, hl⟩
  · exact .inl h
  · exact .inr ⟨hn, p, rfl, hk.own ho (hx p (by simp [blkOf])), hp, hl⟩
theorem Room.low {m0 n : Nat} {m : Mem} {x : AV} {l : List B8} (h : Room m0 m x l n) : ∀ b ∈ blkOf x, m0 ≤ b := by
  rcases h with ⟨_, rfl, _⟩ | ⟨_, p, rfl, _, hp, _⟩
  · simp [blkOf]
  · simpa [blkOf] using hp
/-- The first place of something in a list. -/
def fidx {α : Type} [DecidableEq α] (a : α) : List α → Option Nat
  | [] => none
  | x :: l => if a = x then some 0 else (fidx a l).map (· + 1)
theorem fidx_some {α : Type} [DecidableEq α] {a : α} : ∀ {l : List α} {i : Nat}, fidx a l = some i → l[i]? = some a := by
  intro l
  induction l with
  | nil => intro i h; cases h
  | cons x l ih =>
    intro i h
    unfold fidx at h
    split at h
    · rename_i e; cases h; simp [e]
    · simp only [Option.map_eq_some_iff] at h
      obtain ⟨j, hj, rfl⟩ := h
      simpa using ih hj
theorem fidx_none {α : Type} [DecidableEq α] {a : α} : ∀ {l : List α}, fidx a l = none ↔ a ∉ l := by
  intro l
  induction l with
  | nil => simp [fidx]
  | cons x l ih =>
    unfold fidx
    split
    · rename_i e; simp [e]
    · rename_i e; simp [ih, e]
theorem fidx_nodup {α : Type} [DecidableEq α] {a : α} : ∀ {l : List α} {i : Nat}, l.Nodup → l[i]? = some a → fidx a l = some i := by
  intro l
  induction l with
  | nil => intro i _ h; simp at h
  | cons x l ih =>
    intro i hn h
    rw [List.nodup_cons] at hn
    unfold fidx
    cases i with
    | zero => simp at h; simp [h]
    | succ i =>
      simp only [List.getElem?_cons_succ] at h
      have hm := List.mem_of_getElem? h
      rw [if_neg (by rintro rfl; exact hn.1 hm), ih hn.2 h]; rfl
theorem fidx_lt {α : Type} [DecidableEq α] {a : α} {l : List α} {i : Nat} (h : fidx a l = some i) : i < l.length := lt_of_get (fidx_some h)
theorem fidx_append {α : Type} [DecidableEq α] {a : α} : ∀ {l r : List α} {i : Nat}, fidx a l = some i → fidx a (l ++ r) = some i := by
  intro l
  induction l with
  | nil => intro r i h; cases h
  | cons x l ih =>
    intro r i h
    rw [List.cons_append]
    unfold fidx at h ⊢
    split at h
    · rename_i e; rw [if_pos e]; exact h
    · rename_i e
      simp only [Option.map_eq_some_iff] at h
      obtain ⟨j, hj, rfl⟩ := h
      rw [if_neg e, ih hj]; rfl
theorem fidx_new {α : Type} [DecidableEq α] {a : α} : ∀ {l : List α}, a ∉ l → fidx a (l ++ [a]) = some l.length := by
  intro l
  induction l with
  | nil => intro _; simp [fidx]
  | cons x l ih =>
    intro h
    simp only [List.mem_cons, not_or] at h
    rw [List.cons_append]
    unfold fidx
    rw [if_neg h.1, ih h.2]; simp
/-- A map that tells of each thing its place, from 1 on. -/
def MapR {α : Type} (key : α → AV) (m : Mem) (b : Nat) (l : List α) : Prop :=
  ∃ es c, mapOf m b = some (es, c) ∧ es.length = l.length ∧ ∀ (i : Nat) (a : α), l[i]? = some a → ∃ bn, es[i]? = some (key a, AV.int .i64 ((i + 1 : Nat) : Int), bn)
theorem MapR.at_ {α : Type} {key : α → AV} {m m' : Mem} {b : Nat} {l : List α} (h : MapR key m b l) (he : m'[b]? = m[b]?) : MapR key m' b l := by
  obtain ⟨es, c, h1, h2⟩ := h
  exact ⟨es, c, by unfold mapOf at *; rw [he]; exact h1, h2⟩
theorem MapR.kept {α : Type} {key : α → AV} {m m' : Mem} {b : Nat} {l : List α} {X : List Nat} (h : MapR key m b l) (hk : Kept X m m') (hX : b ∉ X) : MapR key m' b l := by
  refine h.at_ (hk.eq b ?_ hX)
  obtain ⟨es, c, h1, _⟩ := h
  exact lt_of_get (mapOf_some h1)
theorem MapR.lt {α : Type} {key : α → AV} {m : Mem} {b : Nat} {l : List α} (h : MapR key m b l) : b < m.length := by
  obtain ⟨es, c, h1, _⟩ := h
  exact lt_of_get (mapOf_some h1)
theorem aFind_fidx {α : Type} [DecidableEq α] {key : α → AV} {kk : MK} (hkey : ∀ a b, mapEq kk (key a) (key b) = some (decide (a = b))) (a : α) : ∀ (l : List α) (es : List (AV × AV × Nat)) (i0 j0 : Nat), es.length = l.length →
    (∀ (i : Nat) (a : α), l[i]? = some a → ∃ bn, es[i]? = some (key a, AV.int .i64 ((j0 + i + 1 : Nat) : Int), bn)) → aFind kk (key a) es i0 = some ((fidx a l).map fun i => (i0 + i, AV.int .i64 ((j0 + i + 1 : Nat) : Int))) := by
  intro l
  induction l with
  | nil =>
    intro es i0 j0 hl _
    have : es = [] := List.length_eq_zero_iff.mp hl
    subst this; rfl
  | cons x l ih =>
    intro es i0 j0 hl h
    cases es with
    | nil => simp at hl
    | cons e es =>
      obtain ⟨bn, hb⟩ := h 0 x rfl
      simp only [List.getElem?_cons_zero, Option.some.injEq] at hb
      subst hb
      simp only [aFind, hkey, Option.bind_some, fidx]
      by_cases hax : a = x
      · simp [hax]
      · rw [decide_eq_false hax, if_neg hax]
        have := ih es (i0 + 1) (j0 + 1) (by simpa using hl) (fun i a hi => by
          obtain ⟨bn, hb⟩ := h (i + 1) a (by simpa using hi)
          refine ⟨bn, ?_⟩
          simp only [List.getElem?_cons_succ] at hb
          rw [hb, show j0 + (i + 1) + 1 = j0 + 1 + i + 1 by omega])
        simp only [this, Option.map_map, Function.comp_def]
        congr 2
        funext i
        rw [show i0 + 1 + i = i0 + (i + 1) by omega, show j0 + 1 + i + 1 = j0 + (i + 1) + 1 by omega]
def lookR (o : Option Nat) : AV :=
  match o with
  | some i => .tup [.int .i64 ((i + 1 : Nat) : Int), .bool true]
  | none => .tup [.int .i64 0, .bool false]
theorem MapR.look {α : Type} [DecidableEq α] {key : α → AV} {kk : MK} (hkey : ∀ a b, mapEq kk (key a) (key b) = some (decide (a = b))) (hfit : ∀ a, keyFits kk (key a) = true) {m : Mem} {b : Nat} {l : List α} (h : MapR key m b l) (a : α) :
    rLookup kk (.int .i64 0) true m [.map b, key a] = some (lookR (fidx a l)) := by
  obtain ⟨es, c, h1, h2, h3⟩ := h
  have := aFind_fidx hkey a l es 0 0 h2 (by simpa using h3)
  simp only [rLookup, hfit, if_true, h1, Option.bind_some, this, Option.map_some]
  cases fidx a l with
  | none => rfl
  | some i => simp [lookRes, lookR]
theorem MapR.add {α : Type} [DecidableEq α] {key : α → AV} {kk : MK} (hkey : ∀ a b, mapEq kk (key a) (key b) = some (decide (a = b))) (hfit : ∀ a, keyFits kk (key a) = true) {m : Mem} {b : Nat} {l : List α} (h : MapR key m b l) {a : α} (ha : a ∉ l) :
    ∃ m', aMapSet kk m [.map b, key a, .int .i64 ((l.length + 1 : Nat) : Int)] = some (.tup [], m') ∧ MapR key m' b (l ++ [a]) ∧ Kept [b] m m' := by
  have hlt := h.lt
  obtain ⟨es, c, h1, h2, h3⟩ := h
  have := aFind_fidx hkey a l es 0 0 h2 (by simpa using h3)
  rw [fidx_none.mpr ha] at this
  refine ⟨m.set b (.map (es ++ [(key a, .int .i64 ((l.length + 1 : Nat) : Int), c)]) (c + 1)), ?_, ⟨es ++ [(key a, .int .i64 ((l.length + 1 : Nat) : Int), c)], c + 1, ?_, by simp [h2], fun i x hx => ?_⟩, .set1 _ _ _⟩
  · simp only [aMapSet, hfit, if_true, h1, Option.bind_some, aPutMap, this, Option.map_none, Option.map_some]
  · unfold mapOf; rw [List.getElem?_set_self hlt]
  · by_cases hi : i < l.length
    · rw [List.getElem?_append_left hi] at hx
      obtain ⟨bn, hb⟩ := h3 i x hx
      exact ⟨bn, by rw [List.getElem?_append_left (by omega)]; exact hb⟩
    · rw [List.getElem?_append_right (by omega)] at hx
      obtain hi0 : i = l.length := by have := lt_of_get hx; simp at this; omega
      subst hi0
      simp only [Nat.sub_self, List.getElem?_cons_zero, Option.some.injEq] at hx
      subst hx
      exact ⟨c, by rw [← h2, List.getElem?_append_right (Nat.le_refl _)]; simp⟩
theorem MapR.new {α : Type} (key : α → AV) (m : Mem) : MapR key (m ++ [.map [] 0]) m.length [] := ⟨[], 0, by simp [mapOf], rfl, fun i a h => by simp at h⟩
theorem MapR.len {α : Type} {key : α → AV} {m : Mem} {b : Nat} {l : List α} (h : MapR key m b l) : rLenMap m [.map b] = some (.int .i64 l.length) := by
  obtain ⟨es, c, h1, h2, _⟩ := h
  simp only [rLenMap, h1, Option.map_some, h2]
theorem MapR.ne_own {α : Type} {key : α → AV} {m : Mem} {b x : Nat} {l : List α} {c : List AV} (h : MapR key m b l) (ho : own m x = some c) : b ≠ x := by
  rintro rfl
  obtain ⟨es, c', h1, _⟩ := h
  have e1 := mapOf_some h1
  have e2 := own_some ho
  rw [e1] at e2; cases e2
theorem MapR.ne_gr {α : Type} {key : α → AV} {m : Mem} {b sz m0 : Nat} {l : List α} {x : AV} {c : List AV} (h : MapR key m b l) (g : GrA sz m0 m x c) : b ∉ blkOf x := by
  rcases g with ⟨_, rfl | ⟨b', rfl, ho⟩⟩ | ⟨b', n, _, _, rfl, ho, _⟩
  · simp [blkOf]
  · simpa [blkOf] using h.ne_own ho
  · simpa [blkOf] using h.ne_own ho
end Go.Adm
end
section
/- The abstract code of the functions, printed by a program of this session (gencode.py), and checked against the loaded program. -/
namespace Go.Proofs.Ytodkgembfcddbaa
open Go.Adm
theorem mixed : Try.prog.follows .mixedOrders = true := by kernel_rfl
/-- rill/rilllaw06.NamesRuns -/
def c3 : ACode :=
  (.seq
  (.ops [0] [
    ⟨(.some 2), .mv, [(.c (.bool false))], none, 0, 0⟩])
  (.seq
  (.seq
  (.ops [0, 18] [
    ⟨(.some 17), .mv, [(.t 0)], none, 0, 0⟩,
    ⟨(.some 18), (.call 9), [(.t 17)], none, 0, 0⟩])
  (.cond (.t 18)
    (.seq
    (.ops [2] [
      ⟨(.some 19), (.call 10), [], none, 0, 0⟩,
      ⟨(.some 2), .mv, [(.t 19)], none, 0, 0⟩])
    .ret)
    .skip))
  (.seq
  (.ops [0, 3] [
    ⟨(.some 20), (.call 11), [], none, 0, 0⟩,
    ⟨(.some 3), .mv, [(.t 20)], none, 0, 0⟩])
  (.seq
  (.ops [0, 3, 4] [
    ⟨(.some 21), (.call 12), [], none, 0, 0⟩,
    ⟨(.some 4), .mv, [(.t 21)], none, 0, 0⟩])
  (.seq
  (.seq
  (.ops [0, 3, 4, 23] [
    ⟨(.some 22), .mv, [(.t 3)], none, 0, 0⟩,
    ⟨(.some 23), (.eq false .ptr), [(.t 22), (.c .nilp)], none, 0, 0⟩])
  (.cond (.t 23)
    (.seq
    (.ops [2] [
      ⟨(.some 2), .mv, [(.c (.bool false))], none, 0, 0⟩])
    .ret)
    .skip))
  (.seq
  (.ops [0, 3, 4, 5] [
    ⟨(.some 5), .mv, [(.c .nils)], none, 0, 0⟩])
  (.seq
  (.seq
  (.ops [0, 3, 4, 5, 6] [
    ⟨(.some 6), .mv, [(.c (.int .i64 0))], none, 0, 0⟩])
  (.block 0
    (.loop [0, 3, 4, 5, 6]
      (.seq
      (.seq
      (.ops [0, 3, 4, 5, 6, 27] [
        ⟨(.some 24), .mv, [(.t 6)], none, 0, 0⟩,
        ⟨(.some 25), .mv, [(.t 0)], none, 0, 0⟩,
        ⟨(.some 26), .len, [(.t 25)], none, 0, 0⟩,
        ⟨(.some 27), (.cmp .lss), [(.t 24), (.t 26)], none, 0, 0⟩])
      (.cond (.t 27)
        .skip
        (.exit 0)))
      (.seq
      (.block 1
        (.seq
        (.ops [0, 3, 4, 5, 6, 7] [
          ⟨(.some 30), .mv, [(.t 0)], none, 0, 0⟩,
          ⟨(.some 31), .mv, [(.t 6)], none, 0, 0⟩,
          ⟨(.some 32), (.idxAddr 7), [(.t 30), (.t 31)], none, 0, 0⟩,
          ⟨(.some 33), (.load true 7), [(.t 32)], none, 0, 0⟩,
          ⟨(.some 7), (.alloc [(.int .i64 0), (.int .i64 0), (.int .i64 0), (.int .i64 0), .nils, .nils, (.int .u8 0)]), [], none, 0, 0⟩,
          ⟨none, (.store 7), [(.t 7), (.t 33)], none, 0, 0⟩])
        (.seq
        (.ops [0, 3, 4, 5, 6, 7, 8] [
          ⟨(.some 34), (.fieldAddr 5), [(.t 7)], none, 0, 0⟩,
          ⟨(.some 35), (.load false 1), [(.t 34)], none, 0, 0⟩,
          ⟨(.some 8), .mv, [(.t 35)], none, 0, 0⟩])
        (.seq
        (.seq
        (.ops [0, 3, 4, 5, 6, 7, 8, 38] [
          ⟨(.some 36), (.fieldAddr 0), [(.t 7)], none, 0, 0⟩,
          ⟨(.some 37), (.load false 1), [(.t 36)], none, 0, 0⟩,
          ⟨(.some 38), (.eq false .int), [(.t 37), (.c (.int .i64 3))], none, 0, 0⟩])
        (.cond (.t 38)
          (.seq
          (.ops [0, 3, 4, 5, 6, 7, 8] [
            ⟨(.some 8), .mv, [(.c .nils)], none, 0, 0⟩])
          (.seq
          (.ops [0, 3, 4, 5, 6, 7, 8, 41] [
            ⟨(.some 39), .mv, [(.t 5)], none, 0, 0⟩,
            ⟨(.some 40), .len, [(.t 39)], none, 0, 0⟩,
            ⟨(.some 41), (.cmp .gtr), [(.t 40), (.c (.int .i64 0))], none, 0, 0⟩])
          (.cond (.t 41)
            (.drawn [0, 3, 4, 5, 6, 7, 8] [
              ⟨(.some 42), .mv, [(.t 5)], none, 0, 1⟩,
              ⟨(.some 43), (.fieldAddr 3), [(.t 7)], none, 0, 0⟩,
              ⟨(.some 44), (.load false 1), [(.t 43)], none, 0, 0⟩,
              ⟨(.some 45), .mv, [(.t 5)], none, 0, 0⟩,
              ⟨(.some 46), .len, [(.t 45)], none, 0, 0⟩,
              ⟨(.some 47), (.call 14), [(.t 44), (.t 46)], none, 0, 1⟩,
              ⟨(.some 48), (.idxAddr 1), [(.t 42), (.t 47)], none, 1, 1⟩,
              ⟨(.some 49), (.load false 1), [(.t 48)], none, 1, 1⟩,
              ⟨(.some 50), (.fieldAddr 6), [(.t 7)], none, 0, 1⟩,
              ⟨(.some 51), (.load false 1), [(.t 50)], none, 0, 1⟩,
              ⟨(.some 52), (.call 13), [(.t 49), (.t 51)], none, 1, 2⟩,
              ⟨(.some 8), .mv, [(.t 52)], none, 2, 2⟩])
            .skip)))
          .skip))
        (.seq
        (.ops [0, 3, 4, 5, 6, 7, 8, 9] [
          ⟨(.some 53), (.fieldAddr 4), [(.t 7)], none, 0, 0⟩,
          ⟨(.some 54), (.load false 1), [(.t 53)], none, 0, 0⟩,
          ⟨(.some 55), (.call 15), [(.t 54)], none, 0, 0⟩,
          ⟨(.some 9), .mv, [(.t 55)], none, 0, 0⟩])
        (.seq
        (.ops [0, 3, 4, 5, 6, 7, 8, 9, 10] [
          ⟨(.some 56), .mv, [(.t 8)], none, 0, 0⟩,
          ⟨(.some 57), (.call 15), [(.t 56)], none, 0, 0⟩,
          ⟨(.some 10), .mv, [(.t 57)], none, 0, 0⟩])
        (.seq
        (.seq
        (.ops [0, 3, 4, 5, 6, 7, 8, 9, 10, 59] [
          ⟨(.some 58), (.fieldAddr 0), [(.t 7)], none, 0, 0⟩,
          ⟨(.some 59), (.load false 1), [(.t 58)], none, 0, 0⟩])
        (.block 2
          (.seq
          (.ops [0, 3, 4, 5, 6, 7, 8, 9, 10, 59, 60] [
            ⟨(.some 61), (.eq false .int), [(.t 59), (.c (.int .i64 0))], none, 0, 0⟩,
            ⟨(.some 60), .mv, [(.t 61)], none, 0, 0⟩])
          (.cond (.t 60)
            (.seq
            (.drawn [0, 3, 4, 5, 6, 7, 8, 9, 10, 11] [
              ⟨(.some 62), .mv, [(.t 3)], none, 0, 0⟩,
              ⟨(.some 63), (.fieldAddr 1), [(.t 7)], none, 0, 0⟩,
              ⟨(.some 64), (.load false 1), [(.t 63)], none, 0, 0⟩,
              ⟨(.some 65), (.fieldAddr 2), [(.t 7)], none, 0, 0⟩,
              ⟨(.some 66), (.load false 1), [(.t 65)], none, 0, 0⟩,
              ⟨(.some 67), .mv, [(.t 9)], none, 0, 0⟩,
              ⟨(.some 68), (.fieldAddr 4), [(.t 7)], none, 0, 0⟩,
              ⟨(.some 69), (.load false 1), [(.t 68)], none, 0, 0⟩,
              ⟨(.some 70), .len, [(.t 69)], none, 0, 0⟩,
              ⟨(.some 71), (.slice 1 false true false), [(.t 67), (.t 70)], none, 0, 0⟩,
              ⟨(.some 72), .mv, [(.t 10)], none, 0, 0⟩,
              ⟨(.some 73), .mv, [(.t 8)], none, 0, 0⟩,
              ⟨(.some 74), .len, [(.t 73)], none, 0, 0⟩,
              ⟨(.some 75), (.slice 1 false true false), [(.t 72), (.t 74)], none, 0, 0⟩,
              ⟨(.some 76), (.call 16), [(.t 62), (.t 64), (.t 66), (.t 71), (.t 75)], none, 0, 1⟩,
              ⟨(.some 11), .mv, [(.t 76)], none, 1, 1⟩])
            (.seq
            (.ops [0, 3, 4, 5, 6, 7, 8, 9, 10, 11, 12] [
              ⟨(.some 77), .mv, [(.t 4)], none, 0, 0⟩,
              ⟨(.some 78), (.fieldAddr 1), [(.t 7)], none, 0, 0⟩,
              ⟨(.some 79), (.load false 1), [(.t 78)], none, 0, 0⟩,
              ⟨(.some 80), (.fieldAddr 2), [(.t 7)], none, 0, 0⟩,
              ⟨(.some 81), (.load false 1), [(.t 80)], none, 0, 0⟩,
              ⟨(.some 82), (.fieldAddr 4), [(.t 7)], none, 0, 0⟩,
              ⟨(.some 83), (.load false 1), [(.t 82)], none, 0, 0⟩,
              ⟨(.some 84), .mv, [(.t 8)], none, 0, 0⟩,
              ⟨(.some 85), (.call 17), [(.t 77), (.t 79), (.t 81), (.t 83), (.t 84)], none, 0, 0⟩,
              ⟨(.some 12), .mv, [(.t 85)], none, 0, 0⟩])
            (.seq
            (.seq
            (.ops [0, 3, 4, 5, 6, 7, 8, 9, 10, 11, 12, 89] [
              ⟨(.some 86), .mv, [(.t 11)], none, 0, 0⟩,
              ⟨(.some 87), .mv, [(.t 12)], none, 0, 0⟩,
              ⟨(.some 88), (.call 18), [(.t 86), (.t 87)], none, 0, 0⟩,
              ⟨(.some 89), .not, [(.t 88)], none, 0, 0⟩])
            (.cond (.t 89)
              (.seq
              (.ops [2] [
                ⟨(.some 2), .mv, [(.c (.bool false))], none, 0, 0⟩])
              .ret)
              .skip))
            (.seq
            (.ops [0, 3, 4, 5, 6, 7, 8, 9, 10, 11] [
              ⟨(.some 90), .mv, [(.t 5)], none, 0, 0⟩,
              ⟨(.some 91), .mv, [(.t 12)], none, 0, 0⟩,
              ⟨(.some 92), (.mkSl 1 [.nils] [(0, 1)]), [(.t 91)], none, 0, 0⟩,
              ⟨(.some 93), (.append 1 24), [(.t 90), (.t 92)], none, 0, 0⟩,
              ⟨(.some 5), .mv, [(.t 93)], none, 0, 0⟩])
            (.ops [0, 3, 4, 5, 6, 7, 8, 9, 10] [
              ⟨(.some 94), .mv, [(.t 11)], none, 0, 0⟩,
              ⟨(.some 95), (.call 19), [(.t 94)], none, 0, 0⟩])))))
            (.seq
            (.seq
            (.ops [0, 3, 4, 5, 6, 7, 8, 9, 10, 59, 96] [
              ⟨(.some 97), (.eq false .int), [(.t 59), (.c (.int .i64 1))], none, 0, 0⟩,
              ⟨(.some 96), .mv, [(.t 97)], none, 0, 0⟩])
            (.cond (.t 96)
              .skip
              (.ops [0, 3, 4, 5, 6, 7, 8, 9, 10, 59, 96] [
                ⟨(.some 98), (.eq false .int), [(.t 59), (.c (.int .i64 3))], none, 0, 0⟩,
                ⟨(.some 96), .mv, [(.t 98)], none, 0, 0⟩])))
            (.cond (.t 96)
              (.seq
              (.drawn [0, 3, 4, 5, 6, 7, 8, 9, 10, 13, 14] [
                ⟨(.some 100), .mv, [(.t 3)], none, 0, 0⟩,
                ⟨(.some 101), (.fieldAddr 1), [(.t 7)], none, 0, 0⟩,
                ⟨(.some 102), (.load false 1), [(.t 101)], none, 0, 0⟩,
                ⟨(.some 103), (.fieldAddr 2), [(.t 7)], none, 0, 0⟩,
                ⟨(.some 104), (.load false 1), [(.t 103)], none, 0, 0⟩,
                ⟨(.some 105), .mv, [(.t 9)], none, 0, 0⟩,
                ⟨(.some 106), (.fieldAddr 4), [(.t 7)], none, 0, 0⟩,
                ⟨(.some 107), (.load false 1), [(.t 106)], none, 0, 0⟩,
                ⟨(.some 108), .len, [(.t 107)], none, 0, 0⟩,
                ⟨(.some 109), (.slice 1 false true false), [(.t 105), (.t 108)], none, 0, 0⟩,
                ⟨(.some 110), .mv, [(.t 10)], none, 0, 0⟩,
                ⟨(.some 111), .mv, [(.t 8)], none, 0, 0⟩,
                ⟨(.some 112), .len, [(.t 111)], none, 0, 0⟩,
                ⟨(.some 113), (.slice 1 false true false), [(.t 110), (.t 112)], none, 0, 0⟩,
                ⟨(.some 114), (.call 20), [(.t 100), (.t 102), (.t 104), (.t 109), (.t 113)], none, 0, 1⟩,
                ⟨(.some 99), .mv, [(.t 114)], none, 1, 1⟩,
                ⟨(.some 115), (.extract 0), [(.t 99)], none, 1, 1⟩,
                ⟨(.some 116), (.extract 1), [(.t 99)], none, 1, 1⟩,
                ⟨(.some 13), .mv, [(.t 115)], none, 1, 1⟩,
                ⟨(.some 14), .mv, [(.t 116)], none, 1, 1⟩])
              (.seq
              (.ops [0, 3, 4, 5, 6, 7, 8, 9, 10, 13, 14, 15, 16] [
                ⟨(.some 118), .mv, [(.t 4)], none, 0, 0⟩,
                ⟨(.some 119), (.fieldAddr 1), [(.t 7)], none, 0, 0⟩,
                ⟨(.some 120), (.load false 1), [(.t 119)], none, 0, 0⟩,
                ⟨(.some 121), (.fieldAddr 2), [(.t 7)], none, 0, 0⟩,
                ⟨(.some 122), (.load false 1), [(.t 121)], none, 0, 0⟩,
                ⟨(.some 123), (.fieldAddr 4), [(.t 7)], none, 0, 0⟩,
                ⟨(.some 124), (.load false 1), [(.t 123)], none, 0, 0⟩,
                ⟨(.some 125), .mv, [(.t 8)], none, 0, 0⟩,
                ⟨(.some 126), (.call 21), [(.t 118), (.t 120), (.t 122), (.t 124), (.t 125)], none, 0, 0⟩,
                ⟨(.some 117), .mv, [(.t 126)], none, 0, 0⟩,
                ⟨(.some 127), (.extract 0), [(.t 117)], none, 0, 0⟩,
                ⟨(.some 128), (.extract 1), [(.t 117)], none, 0, 0⟩,
                ⟨(.some 15), .mv, [(.t 127)], none, 0, 0⟩,
                ⟨(.some 16), .mv, [(.t 128)], none, 0, 0⟩])
              (.seq
              (.seq
              (.ops [0, 3, 4, 5, 6, 7, 8, 9, 10, 13, 137] [
                ⟨(.some 129), .mv, [(.t 14)], none, 0, 0⟩,
                ⟨(.some 130), .mv, [(.t 16)], none, 0, 0⟩,
                ⟨(.some 131), (.eq true .bool), [(.t 129), (.t 130)], none, 0, 0⟩,
                ⟨(.some 132), .mv, [(.t 131)], none, 0, 0⟩,
                ⟨(.some 133), .mv, [(.t 13)], (.some (132, false)), 0, 0⟩,
                ⟨(.some 134), .mv, [(.t 15)], (.some (132, false)), 0, 0⟩,
                ⟨(.some 135), (.call 18), [(.t 133), (.t 134)], (.some (132, false)), 0, 0⟩,
                ⟨(.some 136), .not, [(.t 135)], (.some (132, false)), 0, 0⟩,
                ⟨(.some 137), .pick, [(.t 132), (.c (.bool true)), (.t 136)], none, 0, 0⟩])
              (.cond (.t 137)
                (.seq
                (.ops [2] [
                  ⟨(.some 2), .mv, [(.c (.bool false))], none, 0, 0⟩])
                .ret)
                .skip))
              (.ops [0, 3, 4, 5, 6, 7, 8, 9, 10] [
                ⟨(.some 138), .mv, [(.t 13)], none, 0, 0⟩,
                ⟨(.some 139), (.call 19), [(.t 138)], none, 0, 0⟩]))))
              (.seq
              (.ops [0, 3, 4, 5, 6, 7, 8, 9, 10, 140] [
                ⟨(.some 141), (.eq false .int), [(.t 59), (.c (.int .i64 2))], none, 0, 0⟩,
                ⟨(.some 140), .mv, [(.t 141)], none, 0, 0⟩])
              (.cond (.t 140)
                (.seq
                (.ops [0, 3, 4, 5, 6, 7, 8, 9, 10, 151] [
                  ⟨(.some 142), .mv, [(.t 3)], none, 0, 0⟩,
                  ⟨(.some 143), .mv, [(.t 10)], none, 0, 0⟩,
                  ⟨(.some 144), .mv, [(.t 8)], none, 0, 0⟩,
                  ⟨(.some 145), .len, [(.t 144)], none, 0, 0⟩,
                  ⟨(.some 146), (.slice 1 false true false), [(.t 143), (.t 145)], none, 0, 0⟩,
                  ⟨(.some 147), (.call 22), [(.t 142), (.t 146)], none, 0, 0⟩,
                  ⟨(.some 148), .mv, [(.t 4)], none, 0, 0⟩,
                  ⟨(.some 149), .mv, [(.t 8)], none, 0, 0⟩,
                  ⟨(.some 150), (.call 23), [(.t 148), (.t 149)], none, 0, 0⟩,
                  ⟨(.some 151), (.eqAgg true (List.replicate 32 .i)), [(.t 147), (.t 150)], none, 0, 0⟩])
                (.cond (.t 151)
                  (.seq
                  (.ops [2] [
                    ⟨(.some 2), .mv, [(.c (.bool false))], none, 0, 0⟩])
                  .ret)
                  .skip))
                .skip))))))))
        (.seq
        (.seq
        (.ops [0, 3, 4, 5, 6, 9, 10, 162] [
          ⟨(.some 152), .mv, [(.t 9)], none, 0, 0⟩,
          ⟨(.some 153), (.fieldAddr 4), [(.t 7)], none, 0, 0⟩,
          ⟨(.some 154), (.load false 1), [(.t 153)], none, 0, 0⟩,
          ⟨(.some 155), (.call 24), [(.t 152), (.t 154)], none, 0, 0⟩,
          ⟨(.some 156), .not, [(.t 155)], none, 0, 0⟩,
          ⟨(.some 157), .mv, [(.t 156)], none, 0, 0⟩,
          ⟨(.some 158), .mv, [(.t 10)], (.some (157, false)), 0, 0⟩,
          ⟨(.some 159), .mv, [(.t 8)], (.some (157, false)), 0, 0⟩,
          ⟨(.some 160), (.call 24), [(.t 158), (.t 159)], (.some (157, false)), 0, 0⟩,
          ⟨(.some 161), .not, [(.t 160)], (.some (157, false)), 0, 0⟩,
          ⟨(.some 162), .pick, [(.t 157), (.c (.bool true)), (.t 161)], none, 0, 0⟩])
        (.cond (.t 162)
          (.seq
          (.ops [2] [
            ⟨(.some 2), .mv, [(.c (.bool false))], none, 0, 0⟩])
          .ret)
          .skip))
        (.seq
        (.ops [0, 3, 4, 5, 6, 10] [
          ⟨(.some 163), .mv, [(.t 9)], none, 0, 0⟩,
          ⟨(.some 164), (.call 19), [(.t 163)], none, 0, 0⟩])
        (.ops [0, 3, 4, 5, 6] [
          ⟨(.some 165), .mv, [(.t 10)], none, 0, 0⟩,
          ⟨(.some 166), (.call 19), [(.t 165)], none, 0, 0⟩]))))))))))
      (.ops [0, 3, 4, 5, 6] [
        ⟨(.some 28), .mv, [(.t 6)], none, 0, 0⟩,
        ⟨(.some 29), (.arith .add), [(.t 28), (.c (.int .i64 1))], none, 0, 0⟩,
        ⟨(.some 6), .mv, [(.t 29)], none, 0, 0⟩]))))))
  (.seq
  (.ops [2] [
    ⟨(.some 167), (.call 10), [], none, 0, 0⟩,
    ⟨(.some 2), .mv, [(.t 167)], none, 0, 0⟩])
  .ret))))))))
def r3 : List ARes := [(.tmp 2)]
theorem ok3 : FnOk Try.prog 3 c3 r3 :=
  ⟨Try.f3, _, Try.func3, by kernel_rfl, rfl, by kernel_rfl, by kernel_rfl⟩
/-- rill/rilllaw06.NamesBack -/
def c4 : ACode :=
  (.seq
  (.ops [0] [
    ⟨(.some 2), .mv, [(.c (.bool false))], none, 0, 0⟩])
  (.seq
  (.seq
  (.ops [0, 13] [
    ⟨(.some 12), .mv, [(.t 0)], none, 0, 0⟩,
    ⟨(.some 13), (.call 25), [(.t 12)], none, 0, 0⟩])
  (.cond (.t 13)
    (.seq
    (.ops [2] [
      ⟨(.some 14), (.call 10), [], none, 0, 0⟩,
      ⟨(.some 2), .mv, [(.t 14)], none, 0, 0⟩])
    .ret)
    .skip))
  (.seq
  (.ops [0, 3] [
    ⟨(.some 15), (.call 11), [], none, 0, 0⟩,
    ⟨(.some 3), .mv, [(.t 15)], none, 0, 0⟩])
  (.seq
  (.ops [0, 3, 4] [
    ⟨(.some 4), .mv, [(.c .nils)], none, 0, 0⟩])
  (.seq
  (.seq
  (.ops [0, 3, 4, 5] [
    ⟨(.some 5), .mv, [(.c (.int .i64 0))], none, 0, 0⟩])
  (.block 0
    (.loop [0, 3, 4, 5]
      (.seq
      (.seq
      (.ops [0, 3, 4, 5, 19] [
        ⟨(.some 16), .mv, [(.t 5)], none, 0, 0⟩,
        ⟨(.some 17), .mv, [(.t 0)], none, 0, 0⟩,
        ⟨(.some 18), .len, [(.t 17)], none, 0, 0⟩,
        ⟨(.some 19), (.cmp .lss), [(.t 16), (.t 18)], none, 0, 0⟩])
      (.cond (.t 19)
        .skip
        (.exit 0)))
      (.seq
      (.block 1
        (.seq
        (.drawn [0, 3, 4, 5, 6] [
          ⟨(.some 22), .mv, [(.t 3)], none, 0, 0⟩,
          ⟨(.some 23), .mv, [(.t 0)], none, 0, 0⟩,
          ⟨(.some 24), .mv, [(.t 5)], none, 0, 0⟩,
          ⟨(.some 25), (.idxAddr 4), [(.t 23), (.t 24)], none, 0, 0⟩,
          ⟨(.some 26), (.fieldAddr 0), [(.t 25)], none, 0, 0⟩,
          ⟨(.some 27), (.load false 1), [(.t 26)], none, 0, 0⟩,
          ⟨(.some 28), .mv, [(.t 0)], none, 0, 0⟩,
          ⟨(.some 29), .mv, [(.t 5)], none, 0, 0⟩,
          ⟨(.some 30), (.idxAddr 4), [(.t 28), (.t 29)], none, 0, 0⟩,
          ⟨(.some 31), (.fieldAddr 1), [(.t 30)], none, 0, 0⟩,
          ⟨(.some 32), (.load false 1), [(.t 31)], none, 0, 0⟩,
          ⟨(.some 33), .mv, [(.t 0)], none, 0, 0⟩,
          ⟨(.some 34), .mv, [(.t 5)], none, 0, 0⟩,
          ⟨(.some 35), (.idxAddr 4), [(.t 33), (.t 34)], none, 0, 0⟩,
          ⟨(.some 36), (.fieldAddr 2), [(.t 35)], none, 0, 0⟩,
          ⟨(.some 37), (.load false 1), [(.t 36)], none, 0, 0⟩,
          ⟨(.some 38), .mv, [(.t 0)], none, 0, 0⟩,
          ⟨(.some 39), .mv, [(.t 5)], none, 0, 0⟩,
          ⟨(.some 40), (.idxAddr 4), [(.t 38), (.t 39)], none, 0, 0⟩,
          ⟨(.some 41), (.fieldAddr 3), [(.t 40)], none, 0, 0⟩,
          ⟨(.some 42), (.load false 1), [(.t 41)], none, 0, 0⟩,
          ⟨(.some 43), (.call 16), [(.t 22), (.t 27), (.t 32), (.t 37), (.t 42)], none, 0, 1⟩,
          ⟨(.some 6), .mv, [(.t 43)], none, 1, 1⟩])
        (.seq
        (.seq
        (.drawn [0, 3, 4, 5, 6, 72] [
          ⟨(.some 44), .mv, [(.t 0)], none, 0, 0⟩,
          ⟨(.some 45), .mv, [(.t 5)], none, 0, 0⟩,
          ⟨(.some 46), (.idxAddr 4), [(.t 44), (.t 45)], none, 0, 0⟩,
          ⟨(.some 47), (.load true 4), [(.t 46)], none, 0, 0⟩,
          ⟨(.some 48), (.call 26), [(.t 47)], none, 0, 1⟩,
          ⟨(.some 49), .mv, [(.t 6)], none, 0, 1⟩,
          ⟨(.some 50), .len, [(.t 49)], none, 0, 1⟩,
          ⟨(.some 51), .mv, [(.t 0)], none, 0, 1⟩,
          ⟨(.some 52), .mv, [(.t 5)], none, 0, 1⟩,
          ⟨(.some 53), (.idxAddr 4), [(.t 51), (.t 52)], none, 0, 1⟩,
          ⟨(.some 54), (.fieldAddr 3), [(.t 53)], none, 0, 1⟩,
          ⟨(.some 55), (.load false 1), [(.t 54)], none, 0, 1⟩,
          ⟨(.some 56), .len, [(.t 55)], none, 0, 1⟩,
          ⟨(.some 57), (.arith .add), [(.t 56), (.c (.int .i64 32))], none, 0, 1⟩,
          ⟨(.some 58), (.eq false .int), [(.t 50), (.t 57)], none, 0, 1⟩,
          ⟨(.some 59), (.eq true .bool), [(.t 48), (.t 58)], none, 1, 1⟩,
          ⟨(.some 60), .mv, [(.t 59)], none, 1, 1⟩,
          ⟨(.some 61), .mv, [(.t 0)], (.some (60, false)), 1, 1⟩,
          ⟨(.some 62), .mv, [(.t 5)], (.some (60, false)), 1, 1⟩,
          ⟨(.some 63), (.idxAddr 4), [(.t 61), (.t 62)], (.some (60, false)), 1, 1⟩,
          ⟨(.some 64), (.load true 4), [(.t 63)], (.some (60, false)), 1, 1⟩,
          ⟨(.some 65), (.call 26), [(.t 64)], (.some (60, false)), 1, 2⟩,
          ⟨(.some 66), .not, [(.t 65)], (.some (60, false)), 2, 2⟩,
          ⟨(.some 67), .mv, [(.t 66)], (.some (60, false)), 2, 2⟩,
          ⟨(.some 68), .mv, [(.t 6)], (.some (67, true)), 2, 2⟩,
          ⟨(.some 69), .len, [(.t 68)], (.some (67, true)), 2, 2⟩,
          ⟨(.some 70), (.eq true .int), [(.t 69), (.c (.int .i64 0))], (.some (67, true)), 2, 2⟩,
          ⟨(.some 71), .pick, [(.t 67), (.t 70), (.c (.bool false))], (.some (60, false)), 2, 2⟩,
          ⟨(.some 72), .pick, [(.t 60), (.c (.bool true)), (.t 71)], none, 2, 2⟩])
        (.cond (.t 72)
          (.seq
          (.ops [2] [
            ⟨(.some 2), .mv, [(.c (.bool false))], none, 0, 0⟩])
          .ret)
          .skip))
        (.ops [0, 3, 4, 5] [
          ⟨(.some 73), .mv, [(.t 4)], none, 0, 0⟩,
          ⟨(.some 74), .mv, [(.t 6)], none, 0, 0⟩,
          ⟨(.some 75), (.mkSl 1 [.nils] [(0, 1)]), [(.t 74)], none, 0, 0⟩,
          ⟨(.some 76), (.append 1 24), [(.t 73), (.t 75)], none, 0, 0⟩,
          ⟨(.some 4), .mv, [(.t 76)], none, 0, 0⟩]))))
      (.ops [0, 3, 4, 5] [
        ⟨(.some 20), .mv, [(.t 5)], none, 0, 0⟩,
        ⟨(.some 21), (.arith .add), [(.t 20), (.c (.int .i64 1))], none, 0, 0⟩,
        ⟨(.some 5), .mv, [(.t 21)], none, 0, 0⟩]))))))
  (.seq
  (.seq
  (.ops [0, 3, 4, 7] [
    ⟨(.some 7), .mv, [(.c (.int .i64 0))], none, 0, 0⟩])
  (.block 2
    (.loop [0, 3, 4, 7]
      (.seq
      (.seq
      (.ops [0, 3, 4, 7, 80] [
        ⟨(.some 77), .mv, [(.t 7)], none, 0, 0⟩,
        ⟨(.some 78), .mv, [(.t 0)], none, 0, 0⟩,
        ⟨(.some 79), .len, [(.t 78)], none, 0, 0⟩,
        ⟨(.some 80), (.cmp .lss), [(.t 77), (.t 79)], none, 0, 0⟩])
      (.cond (.t 80)
        .skip
        (.exit 2)))
      (.seq
      (.block 3
        (.seq
        (.seq
        (.ops [0, 3, 4, 7, 8] [
          ⟨(.some 8), .mv, [(.c (.int .i64 0))], none, 0, 0⟩])
        (.block 4
          (.loop [0, 3, 4, 7, 8]
            (.seq
            (.seq
            (.ops [0, 3, 4, 7, 8, 86] [
              ⟨(.some 83), .mv, [(.t 8)], none, 0, 0⟩,
              ⟨(.some 84), .mv, [(.t 0)], none, 0, 0⟩,
              ⟨(.some 85), .len, [(.t 84)], none, 0, 0⟩,
              ⟨(.some 86), (.cmp .lss), [(.t 83), (.t 85)], none, 0, 0⟩])
            (.cond (.t 86)
              .skip
              (.exit 4)))
            (.seq
            (.block 5
              (.seq
              (.seq
              (.ops [0, 3, 4, 7, 8, 94] [
                ⟨(.some 89), .mv, [(.t 0)], none, 0, 0⟩,
                ⟨(.some 90), .mv, [(.t 7)], none, 0, 0⟩,
                ⟨(.some 91), (.idxAddr 4), [(.t 89), (.t 90)], none, 0, 0⟩,
                ⟨(.some 92), (.load true 4), [(.t 91)], none, 0, 0⟩,
                ⟨(.some 93), (.call 26), [(.t 92)], none, 0, 0⟩,
                ⟨(.some 94), .not, [(.t 93)], none, 0, 0⟩])
              (.cond (.t 94)
                (.exit 5)
                .skip))
              (.seq
              (.drawn [0, 3, 4, 7, 8, 9, 10] [
                ⟨(.some 96), .mv, [(.t 3)], none, 0, 0⟩,
                ⟨(.some 97), .mv, [(.t 0)], none, 0, 0⟩,
                ⟨(.some 98), .mv, [(.t 8)], none, 0, 0⟩,
                ⟨(.some 99), (.idxAddr 4), [(.t 97), (.t 98)], none, 0, 0⟩,
                ⟨(.some 100), (.fieldAddr 0), [(.t 99)], none, 0, 0⟩,
                ⟨(.some 101), (.load false 1), [(.t 100)], none, 0, 0⟩,
                ⟨(.some 102), .mv, [(.t 0)], none, 0, 0⟩,
                ⟨(.some 103), .mv, [(.t 8)], none, 0, 0⟩,
                ⟨(.some 104), (.idxAddr 4), [(.t 102), (.t 103)], none, 0, 0⟩,
                ⟨(.some 105), (.fieldAddr 1), [(.t 104)], none, 0, 0⟩,
                ⟨(.some 106), (.load false 1), [(.t 105)], none, 0, 0⟩,
                ⟨(.some 107), .mv, [(.t 0)], none, 0, 0⟩,
                ⟨(.some 108), .mv, [(.t 8)], none, 0, 0⟩,
                ⟨(.some 109), (.idxAddr 4), [(.t 107), (.t 108)], none, 0, 0⟩,
                ⟨(.some 110), (.fieldAddr 2), [(.t 109)], none, 0, 0⟩,
                ⟨(.some 111), (.load false 1), [(.t 110)], none, 0, 0⟩,
                ⟨(.some 112), .mv, [(.t 4)], none, 0, 0⟩,
                ⟨(.some 113), .mv, [(.t 7)], none, 0, 0⟩,
                ⟨(.some 114), (.idxAddr 1), [(.t 112), (.t 113)], none, 0, 0⟩,
                ⟨(.some 115), (.load false 1), [(.t 114)], none, 0, 0⟩,
                ⟨(.some 116), (.call 20), [(.t 96), (.t 101), (.t 106), (.t 111), (.t 115)], none, 0, 1⟩,
                ⟨(.some 95), .mv, [(.t 116)], none, 1, 1⟩,
                ⟨(.some 117), (.extract 0), [(.t 95)], none, 1, 1⟩,
                ⟨(.some 118), (.extract 1), [(.t 95)], none, 1, 1⟩,
                ⟨(.some 9), .mv, [(.t 117)], none, 1, 1⟩,
                ⟨(.some 10), .mv, [(.t 118)], none, 1, 1⟩])
              (.seq
              (.drawn [0, 3, 4, 7, 8, 9, 10, 11] [
                ⟨(.some 119), .mv, [(.t 0)], none, 0, 0⟩,
                ⟨(.some 120), .mv, [(.t 8)], none, 0, 0⟩,
                ⟨(.some 121), (.idxAddr 4), [(.t 119), (.t 120)], none, 0, 0⟩,
                ⟨(.some 122), (.fieldAddr 0), [(.t 121)], none, 0, 0⟩,
                ⟨(.some 123), (.load false 1), [(.t 122)], none, 0, 0⟩,
                ⟨(.some 124), .mv, [(.t 0)], none, 0, 0⟩,
                ⟨(.some 125), .mv, [(.t 7)], none, 0, 0⟩,
                ⟨(.some 126), (.idxAddr 4), [(.t 124), (.t 125)], none, 0, 0⟩,
                ⟨(.some 127), (.fieldAddr 0), [(.t 126)], none, 0, 0⟩,
                ⟨(.some 128), (.load false 1), [(.t 127)], none, 0, 0⟩,
                ⟨(.some 129), (.eq false .int), [(.t 123), (.t 128)], none, 0, 0⟩,
                ⟨(.some 130), .mv, [(.t 129)], none, 0, 0⟩,
                ⟨(.some 131), .mv, [(.t 0)], (.some (130, true)), 0, 0⟩,
                ⟨(.some 132), .mv, [(.t 8)], (.some (130, true)), 0, 0⟩,
                ⟨(.some 133), (.idxAddr 4), [(.t 131), (.t 132)], (.some (130, true)), 0, 0⟩,
                ⟨(.some 134), (.fieldAddr 1), [(.t 133)], (.some (130, true)), 0, 0⟩,
                ⟨(.some 135), (.load false 1), [(.t 134)], (.some (130, true)), 0, 0⟩,
                ⟨(.some 136), .mv, [(.t 0)], (.some (130, true)), 0, 0⟩,
                ⟨(.some 137), .mv, [(.t 7)], (.some (130, true)), 0, 0⟩,
                ⟨(.some 138), (.idxAddr 4), [(.t 136), (.t 137)], (.some (130, true)), 0, 0⟩,
                ⟨(.some 139), (.fieldAddr 1), [(.t 138)], (.some (130, true)), 0, 0⟩,
                ⟨(.some 140), (.load false 1), [(.t 139)], (.some (130, true)), 0, 0⟩,
                ⟨(.some 141), (.eq false .int), [(.t 135), (.t 140)], (.some (130, true)), 0, 0⟩,
                ⟨(.some 142), .pick, [(.t 130), (.t 141), (.c (.bool false))], none, 0, 0⟩,
                ⟨(.some 143), .mv, [(.t 142)], none, 0, 0⟩,
                ⟨(.some 144), .mv, [(.t 0)], (.some (143, true)), 0, 0⟩,
                ⟨(.some 145), .mv, [(.t 8)], (.some (143, true)), 0, 0⟩,
                ⟨(.some 146), (.idxAddr 4), [(.t 144), (.t 145)], (.some (143, true)), 0, 0⟩,
                ⟨(.some 147), (.fieldAddr 2), [(.t 146)], (.some (143, true)), 0, 0⟩,
                ⟨(.some 148), (.load false 1), [(.t 147)], (.some (143, true)), 0, 0⟩,
                ⟨(.some 149), .mv, [(.t 0)], (.some (143, true)), 0, 0⟩,
                ⟨(.some 150), .mv, [(.t 7)], (.some (143, true)), 0, 0⟩,
                ⟨(.some 151), (.idxAddr 4), [(.t 149), (.t 150)], (.some (143, true)), 0, 0⟩,
                ⟨(.some 152), (.fieldAddr 2), [(.t 151)], (.some (143, true)), 0, 0⟩,
                ⟨(.some 153), (.load false 1), [(.t 152)], (.some (143, true)), 0, 0⟩,
                ⟨(.some 154), (.call 18), [(.t 148), (.t 153)], (.some (143, true)), 0, 1⟩,
                ⟨(.some 155), .pick, [(.t 143), (.t 154), (.c (.bool false))], none, 1, 1⟩,
                ⟨(.some 11), .mv, [(.t 155)], none, 1, 1⟩])
              (.seq
              (.drawn [0, 3, 4, 7, 8, 212] [
                ⟨(.some 156), .mv, [(.t 10)], none, 0, 0⟩,
                ⟨(.some 157), .mv, [(.t 11)], none, 0, 0⟩,
                ⟨(.some 158), (.eq true .bool), [(.t 156), (.t 157)], none, 0, 0⟩,
                ⟨(.some 159), .mv, [(.t 158)], none, 0, 0⟩,
                ⟨(.some 160), .mv, [(.t 10)], (.some (159, false)), 0, 0⟩,
                ⟨(.some 161), .mv, [(.t 160)], (.some (159, false)), 0, 0⟩,
                ⟨(.some 162), .mv, [(.t 9)], (.some (161, true)), 0, 0⟩,
                ⟨(.some 163), .mv, [(.t 0)], (.some (161, true)), 0, 0⟩,
                ⟨(.some 164), .mv, [(.t 7)], (.some (161, true)), 0, 0⟩,
                ⟨(.some 165), (.idxAddr 4), [(.t 163), (.t 164)], (.some (161, true)), 0, 0⟩,
                ⟨(.some 166), (.fieldAddr 3), [(.t 165)], (.some (161, true)), 0, 0⟩,
                ⟨(.some 167), (.load false 1), [(.t 166)], (.some (161, true)), 0, 0⟩,
                ⟨(.some 168), (.call 18), [(.t 162), (.t 167)], (.some (161, true)), 0, 1⟩,
                ⟨(.some 169), .not, [(.t 168)], (.some (161, true)), 1, 1⟩,
                ⟨(.some 170), .pick, [(.t 161), (.t 169), (.c (.bool false))], (.some (159, false)), 1, 1⟩,
                ⟨(.some 171), .pick, [(.t 159), (.c (.bool true)), (.t 170)], none, 1, 1⟩,
                ⟨(.some 172), .mv, [(.t 171)], none, 1, 1⟩,
                ⟨(.some 173), .mv, [(.t 0)], (.some (172, false)), 1, 1⟩,
                ⟨(.some 174), .mv, [(.t 8)], (.some (172, false)), 1, 1⟩,
                ⟨(.some 175), (.idxAddr 4), [(.t 173), (.t 174)], (.some (172, false)), 1, 1⟩,
                ⟨(.some 176), (.load true 4), [(.t 175)], (.some (172, false)), 1, 1⟩,
                ⟨(.some 177), (.call 26), [(.t 176)], (.some (172, false)), 1, 2⟩,
                ⟨(.some 178), .mv, [(.t 177)], (.some (172, false)), 2, 2⟩,
                ⟨(.some 179), .mv, [(.t 4)], (.some (178, true)), 2, 2⟩,
                ⟨(.some 180), .mv, [(.t 7)], (.some (178, true)), 2, 2⟩,
                ⟨(.some 181), (.idxAddr 1), [(.t 179), (.t 180)], (.some (178, true)), 2, 2⟩,
                ⟨(.some 182), (.load false 1), [(.t 181)], (.some (178, true)), 2, 2⟩,
                ⟨(.some 183), .mv, [(.t 4)], (.some (178, true)), 2, 2⟩,
                ⟨(.some 184), .mv, [(.t 8)], (.some (178, true)), 2, 2⟩,
                ⟨(.some 185), (.idxAddr 1), [(.t 183), (.t 184)], (.some (178, true)), 2, 2⟩,
                ⟨(.some 186), (.load false 1), [(.t 185)], (.some (178, true)), 2, 2⟩,
                ⟨(.some 187), (.call 18), [(.t 182), (.t 186)], (.some (178, true)), 2, 3⟩,
                ⟨(.some 188), .mv, [(.t 0)], (.some (178, true)), 2, 3⟩,
                ⟨(.some 189), .mv, [(.t 7)], (.some (178, true)), 2, 3⟩,
                ⟨(.some 190), (.idxAddr 4), [(.t 188), (.t 189)], (.some (178, true)), 2, 3⟩,
                ⟨(.some 191), (.load true 4), [(.t 190)], (.some (178, true)), 2, 3⟩,
                ⟨(.some 192), .mv, [(.t 0)], (.some (178, true)), 2, 3⟩,
                ⟨(.some 193), .mv, [(.t 8)], (.some (178, true)), 2, 3⟩,
                ⟨(.some 194), (.idxAddr 4), [(.t 192), (.t 193)], (.some (178, true)), 2, 3⟩,
                ⟨(.some 195), (.load true 4), [(.t 194)], (.some (178, true)), 2, 3⟩,
                ⟨(.some 196), (.call 27), [(.t 191), (.t 195)], (.some (178, true)), 3, 4⟩,
                ⟨(.some 197), (.eq true .bool), [(.t 187), (.t 196)], (.some (178, true)), 4, 4⟩,
                ⟨(.some 198), .pick, [(.t 178), (.t 197), (.c (.bool false))], (.some (172, false)), 4, 4⟩,
                ⟨(.some 199), .mv, [(.t 198)], (.some (172, false)), 4, 4⟩,
                ⟨(.some 200), .mv, [(.t 0)], (.some (199, true)), 4, 4⟩,
                ⟨(.some 201), .mv, [(.t 7)], (.some (199, true)), 4, 4⟩,
                ⟨(.some 202), (.idxAddr 4), [(.t 200), (.t 201)], (.some (199, true)), 4, 4⟩,
                ⟨(.some 203), (.fieldAddr 3), [(.t 202)], (.some (199, true)), 4, 4⟩,
                ⟨(.some 204), (.load false 1), [(.t 203)], (.some (199, true)), 4, 4⟩,
                ⟨(.some 205), .mv, [(.t 0)], (.some (199, true)), 4, 4⟩,
                ⟨(.some 206), .mv, [(.t 8)], (.some (199, true)), 4, 4⟩,
                ⟨(.some 207), (.idxAddr 4), [(.t 205), (.t 206)], (.some (199, true)), 4, 4⟩,
                ⟨(.some 208), (.fieldAddr 3), [(.t 207)], (.some (199, true)), 4, 4⟩,
                ⟨(.some 209), (.load false 1), [(.t 208)], (.some (199, true)), 4, 4⟩,
                ⟨(.some 210), (.call 18), [(.t 204), (.t 209)], (.some (199, true)), 4, 5⟩,
                ⟨(.some 211), .pick, [(.t 199), (.t 210), (.c (.bool false))], (.some (172, false)), 5, 5⟩,
                ⟨(.some 212), .pick, [(.t 172), (.c (.bool true)), (.t 211)], none, 5, 5⟩])
              (.cond (.t 212)
                (.seq
                (.ops [2] [
                  ⟨(.some 2), .mv, [(.c (.bool false))], none, 0, 0⟩])
                .ret)
                .skip))))))
            (.ops [0, 3, 4, 7, 8] [
              ⟨(.some 87), .mv, [(.t 8)], none, 0, 0⟩,
              ⟨(.some 88), (.arith .add), [(.t 87), (.c (.int .i64 1))], none, 0, 0⟩,
              ⟨(.some 8), .mv, [(.t 88)], none, 0, 0⟩]))))))
        (.seq
        (.drawn [0, 3, 4, 7, 240] [
          ⟨(.some 213), .mv, [(.t 3)], none, 0, 0⟩,
          ⟨(.some 214), .mv, [(.t 0)], none, 0, 0⟩,
          ⟨(.some 215), .mv, [(.t 7)], none, 0, 0⟩,
          ⟨(.some 216), (.idxAddr 4), [(.t 214), (.t 215)], none, 0, 0⟩,
          ⟨(.some 217), (.fieldAddr 0), [(.t 216)], none, 0, 0⟩,
          ⟨(.some 218), (.load false 1), [(.t 217)], none, 0, 0⟩,
          ⟨(.some 219), .mv, [(.t 0)], none, 0, 0⟩,
          ⟨(.some 220), .mv, [(.t 7)], none, 0, 0⟩,
          ⟨(.some 221), (.idxAddr 4), [(.t 219), (.t 220)], none, 0, 0⟩,
          ⟨(.some 222), (.fieldAddr 1), [(.t 221)], none, 0, 0⟩,
          ⟨(.some 223), (.load false 1), [(.t 222)], none, 0, 0⟩,
          ⟨(.some 224), .mv, [(.t 0)], none, 0, 0⟩,
          ⟨(.some 225), .mv, [(.t 7)], none, 0, 0⟩,
          ⟨(.some 226), (.idxAddr 4), [(.t 224), (.t 225)], none, 0, 0⟩,
          ⟨(.some 227), (.fieldAddr 2), [(.t 226)], none, 0, 0⟩,
          ⟨(.some 228), (.load false 1), [(.t 227)], none, 0, 0⟩,
          ⟨(.some 229), .mv, [(.t 0)], none, 0, 0⟩,
          ⟨(.some 230), .mv, [(.t 7)], none, 0, 0⟩,
          ⟨(.some 231), (.idxAddr 4), [(.t 229), (.t 230)], none, 0, 0⟩,
          ⟨(.some 232), (.fieldAddr 3), [(.t 231)], none, 0, 0⟩,
          ⟨(.some 233), (.load false 1), [(.t 232)], none, 0, 0⟩,
          ⟨(.some 234), (.call 16), [(.t 213), (.t 218), (.t 223), (.t 228), (.t 233)], none, 0, 1⟩,
          ⟨(.some 235), .mv, [(.t 4)], none, 0, 1⟩,
          ⟨(.some 236), .mv, [(.t 7)], none, 0, 1⟩,
          ⟨(.some 237), (.idxAddr 1), [(.t 235), (.t 236)], none, 0, 1⟩,
          ⟨(.some 238), (.load false 1), [(.t 237)], none, 0, 1⟩,
          ⟨(.some 239), (.call 18), [(.t 234), (.t 238)], none, 1, 2⟩,
          ⟨(.some 240), .not, [(.t 239)], none, 2, 2⟩])
        (.cond (.t 240)
          (.seq
          (.ops [2] [
            ⟨(.some 2), .mv, [(.c (.bool false))], none, 0, 0⟩])
          .ret)
          .skip))))
      (.ops [0, 3, 4, 7] [
        ⟨(.some 81), .mv, [(.t 7)], none, 0, 0⟩,
        ⟨(.some 82), (.arith .add), [(.t 81), (.c (.int .i64 1))], none, 0, 0⟩,
        ⟨(.some 7), .mv, [(.t 82)], none, 0, 0⟩]))))))
  (.seq
  (.ops [2] [
    ⟨(.some 241), (.call 10), [], none, 0, 0⟩,
    ⟨(.some 2), .mv, [(.t 241)], none, 0, 0⟩])
  .ret)))))))
def r4 : List ARes := [(.tmp 2)]
theorem ok4 : FnOk Try.prog 4 c4 r4 :=
  ⟨Try.f4, _, Try.func4, by kernel_rfl, rfl, by kernel_rfl, by kernel_rfl⟩
/-- rill/rilllaw06.NamesForged -/
def c5 : ACode :=
  (.seq
  (.ops [0, 1, 2, 3, 4] [
    ⟨(.some 10), .mv, [(.c (.bool false))], none, 0, 0⟩])
  (.seq
  (.seq
  (.ops [0, 1, 2, 3, 4, 28] [
    ⟨(.some 17), .mv, [(.t 0)], none, 0, 0⟩,
    ⟨(.some 18), (.call 25), [(.t 17)], none, 0, 0⟩,
    ⟨(.some 19), .mv, [(.t 18)], none, 0, 0⟩,
    ⟨(.some 20), .mv, [(.t 3)], (.some (19, false)), 0, 0⟩,
    ⟨(.some 21), .len, [(.t 20)], (.some (19, false)), 0, 0⟩,
    ⟨(.some 22), (.cmp .gtr), [(.t 21), (.c (.int .i64 8192))], (.some (19, false)), 0, 0⟩,
    ⟨(.some 23), .pick, [(.t 19), (.c (.bool true)), (.t 22)], none, 0, 0⟩,
    ⟨(.some 24), .mv, [(.t 23)], none, 0, 0⟩,
    ⟨(.some 25), .mv, [(.t 4)], (.some (24, false)), 0, 0⟩,
    ⟨(.some 26), .len, [(.t 25)], (.some (24, false)), 0, 0⟩,
    ⟨(.some 27), (.cmp .gtr), [(.t 26), (.c (.int .i64 8192))], (.some (24, false)), 0, 0⟩,
    ⟨(.some 28), .pick, [(.t 24), (.c (.bool true)), (.t 27)], none, 0, 0⟩])
  (.cond (.t 28)
    (.seq
    (.ops [10] [
      ⟨(.some 29), (.call 10), [], none, 0, 0⟩,
      ⟨(.some 10), .mv, [(.t 29)], none, 0, 0⟩])
    .ret)
    .skip))
  (.seq
  (.ops [0, 1, 2, 3, 4, 11] [
    ⟨(.some 30), (.call 11), [], none, 0, 0⟩,
    ⟨(.some 11), .mv, [(.t 30)], none, 0, 0⟩])
  (.seq
  (.ops [0, 1, 2, 3, 4, 11, 12] [
    ⟨(.some 12), .mv, [(.c (.bool false))], none, 0, 0⟩])
  (.seq
  (.seq
  (.ops [0, 1, 2, 3, 4, 11, 12, 13] [
    ⟨(.some 13), .mv, [(.c (.int .i64 0))], none, 0, 0⟩])
  (.block 0
    (.loop [0, 1, 2, 3, 4, 11, 12, 13]
      (.seq
      (.seq
      (.ops [0, 1, 2, 3, 4, 11, 12, 13, 34] [
        ⟨(.some 31), .mv, [(.t 13)], none, 0, 0⟩,
        ⟨(.some 32), .mv, [(.t 0)], none, 0, 0⟩,
        ⟨(.some 33), .len, [(.t 32)], none, 0, 0⟩,
        ⟨(.some 34), (.cmp .lss), [(.t 31), (.t 33)], none, 0, 0⟩])
      (.cond (.t 34)
        .skip
        (.exit 0)))
      (.seq
      (.block 1
        (.seq
        (.drawn [0, 1, 2, 3, 4, 11, 12, 13, 14] [
          ⟨(.some 37), .mv, [(.t 11)], none, 0, 0⟩,
          ⟨(.some 38), .mv, [(.t 0)], none, 0, 0⟩,
          ⟨(.some 39), .mv, [(.t 13)], none, 0, 0⟩,
          ⟨(.some 40), (.idxAddr 4), [(.t 38), (.t 39)], none, 0, 0⟩,
          ⟨(.some 41), (.fieldAddr 0), [(.t 40)], none, 0, 0⟩,
          ⟨(.some 42), (.load false 1), [(.t 41)], none, 0, 0⟩,
          ⟨(.some 43), .mv, [(.t 0)], none, 0, 0⟩,
          ⟨(.some 44), .mv, [(.t 13)], none, 0, 0⟩,
          ⟨(.some 45), (.idxAddr 4), [(.t 43), (.t 44)], none, 0, 0⟩,
          ⟨(.some 46), (.fieldAddr 1), [(.t 45)], none, 0, 0⟩,
          ⟨(.some 47), (.load false 1), [(.t 46)], none, 0, 0⟩,
          ⟨(.some 48), .mv, [(.t 0)], none, 0, 0⟩,
          ⟨(.some 49), .mv, [(.t 13)], none, 0, 0⟩,
          ⟨(.some 50), (.idxAddr 4), [(.t 48), (.t 49)], none, 0, 0⟩,
          ⟨(.some 51), (.fieldAddr 2), [(.t 50)], none, 0, 0⟩,
          ⟨(.some 52), (.load false 1), [(.t 51)], none, 0, 0⟩,
          ⟨(.some 53), .mv, [(.t 0)], none, 0, 0⟩,
          ⟨(.some 54), .mv, [(.t 13)], none, 0, 0⟩,
          ⟨(.some 55), (.idxAddr 4), [(.t 53), (.t 54)], none, 0, 0⟩,
          ⟨(.some 56), (.fieldAddr 3), [(.t 55)], none, 0, 0⟩,
          ⟨(.some 57), (.load false 1), [(.t 56)], none, 0, 0⟩,
          ⟨(.some 58), (.call 16), [(.t 37), (.t 42), (.t 47), (.t 52), (.t 57)], none, 0, 1⟩,
          ⟨(.some 14), .mv, [(.t 58)], none, 1, 1⟩])
        (.ops [0, 1, 2, 3, 4, 11, 12, 13] [
          ⟨(.some 59), .mv, [(.t 12)], none, 0, 0⟩,
          ⟨(.some 60), .mv, [(.t 59)], none, 0, 0⟩,
          ⟨(.some 61), .mv, [(.t 0)], (.some (60, false)), 0, 0⟩,
          ⟨(.some 62), .mv, [(.t 13)], (.some (60, false)), 0, 0⟩,
          ⟨(.some 63), (.idxAddr 4), [(.t 61), (.t 62)], (.some (60, false)), 0, 0⟩,
          ⟨(.some 64), (.load true 4), [(.t 63)], (.some (60, false)), 0, 0⟩,
          ⟨(.some 65), (.call 26), [(.t 64)], (.some (60, false)), 0, 0⟩,
          ⟨(.some 66), .mv, [(.t 65)], (.some (60, false)), 0, 0⟩,
          ⟨(.some 67), .mv, [(.t 0)], (.some (66, true)), 0, 0⟩,
          ⟨(.some 68), .mv, [(.t 13)], (.some (66, true)), 0, 0⟩,
          ⟨(.some 69), (.idxAddr 4), [(.t 67), (.t 68)], (.some (66, true)), 0, 0⟩,
          ⟨(.some 70), (.fieldAddr 0), [(.t 69)], (.some (66, true)), 0, 0⟩,
          ⟨(.some 71), (.load false 1), [(.t 70)], (.some (66, true)), 0, 0⟩,
          ⟨(.some 72), .mv, [(.t 1)], (.some (66, true)), 0, 0⟩,
          ⟨(.some 73), (.eq false .int), [(.t 71), (.t 72)], (.some (66, true)), 0, 0⟩,
          ⟨(.some 74), .pick, [(.t 66), (.t 73), (.c (.bool false))], (.some (60, false)), 0, 0⟩,
          ⟨(.some 75), .mv, [(.t 74)], (.some (60, false)), 0, 0⟩,
          ⟨(.some 76), .mv, [(.t 0)], (.some (75, true)), 0, 0⟩,
          ⟨(.some 77), .mv, [(.t 13)], (.some (75, true)), 0, 0⟩,
          ⟨(.some 78), (.idxAddr 4), [(.t 76), (.t 77)], (.some (75, true)), 0, 0⟩,
          ⟨(.some 79), (.fieldAddr 1), [(.t 78)], (.some (75, true)), 0, 0⟩,
          ⟨(.some 80), (.load false 1), [(.t 79)], (.some (75, true)), 0, 0⟩,
          ⟨(.some 81), .mv, [(.t 2)], (.some (75, true)), 0, 0⟩,
          ⟨(.some 82), (.eq false .int), [(.t 80), (.t 81)], (.some (75, true)), 0, 0⟩,
          ⟨(.some 83), .pick, [(.t 75), (.t 82), (.c (.bool false))], (.some (60, false)), 0, 0⟩,
          ⟨(.some 84), .mv, [(.t 83)], (.some (60, false)), 0, 0⟩,
          ⟨(.some 85), .mv, [(.t 0)], (.some (84, true)), 0, 0⟩,
          ⟨(.some 86), .mv, [(.t 13)], (.some (84, true)), 0, 0⟩,
          ⟨(.some 87), (.idxAddr 4), [(.t 85), (.t 86)], (.some (84, true)), 0, 0⟩,
          ⟨(.some 88), (.fieldAddr 2), [(.t 87)], (.some (84, true)), 0, 0⟩,
          ⟨(.some 89), (.load false 1), [(.t 88)], (.some (84, true)), 0, 0⟩,
          ⟨(.some 90), .mv, [(.t 3)], (.some (84, true)), 0, 0⟩,
          ⟨(.some 91), (.call 18), [(.t 89), (.t 90)], (.some (84, true)), 0, 0⟩,
          ⟨(.some 92), .pick, [(.t 84), (.t 91), (.c (.bool false))], (.some (60, false)), 0, 0⟩,
          ⟨(.some 93), .mv, [(.t 92)], (.some (60, false)), 0, 0⟩,
          ⟨(.some 94), .mv, [(.t 14)], (.some (93, true)), 0, 0⟩,
          ⟨(.some 95), .mv, [(.t 4)], (.some (93, true)), 0, 0⟩,
          ⟨(.some 96), (.call 18), [(.t 94), (.t 95)], (.some (93, true)), 0, 0⟩,
          ⟨(.some 97), .pick, [(.t 93), (.t 96), (.c (.bool false))], (.some (60, false)), 0, 0⟩,
          ⟨(.some 98), .pick, [(.t 60), (.c (.bool true)), (.t 97)], none, 0, 0⟩,
          ⟨(.some 12), .mv, [(.t 98)], none, 0, 0⟩])))
      (.ops [0, 1, 2, 3, 4, 11, 12, 13] [
        ⟨(.some 35), .mv, [(.t 13)], none, 0, 0⟩,
        ⟨(.some 36), (.arith .add), [(.t 35), (.c (.int .i64 1))], none, 0, 0⟩,
        ⟨(.some 13), .mv, [(.t 36)], none, 0, 0⟩]))))))
  (.seq
  (.ops [12, 16] [
    ⟨(.some 100), .mv, [(.t 11)], none, 0, 0⟩,
    ⟨(.some 101), .mv, [(.t 1)], none, 0, 0⟩,
    ⟨(.some 102), .mv, [(.t 2)], none, 0, 0⟩,
    ⟨(.some 103), .mv, [(.t 3)], none, 0, 0⟩,
    ⟨(.some 104), .mv, [(.t 4)], none, 0, 0⟩,
    ⟨(.some 105), (.call 20), [(.t 100), (.t 101), (.t 102), (.t 103), (.t 104)], none, 0, 0⟩,
    ⟨(.some 99), .mv, [(.t 105)], none, 0, 0⟩,
    ⟨(.some 106), (.extract 0), [(.t 99)], none, 0, 0⟩,
    ⟨(.some 107), (.extract 1), [(.t 99)], none, 0, 0⟩,
    ⟨(.some 15), .mv, [(.t 106)], none, 0, 0⟩,
    ⟨(.some 16), .mv, [(.t 107)], none, 0, 0⟩])
  (.seq
  (.ops [10] [
    ⟨(.some 108), .mv, [(.t 16)], none, 0, 0⟩,
    ⟨(.some 109), .mv, [(.t 12)], none, 0, 0⟩,
    ⟨(.some 110), (.eq false .bool), [(.t 108), (.t 109)], none, 0, 0⟩,
    ⟨(.some 111), .mv, [(.t 110)], none, 0, 0⟩,
    ⟨(.some 112), (.call 10), [], (.some (111, true)), 0, 0⟩,
    ⟨(.some 113), .pick, [(.t 111), (.t 112), (.c (.bool false))], none, 0, 0⟩,
    ⟨(.some 10), .mv, [(.t 113)], none, 0, 0⟩])
  .ret)))))))
def r5 : List ARes := [(.tmp 10)]
theorem ok5 : FnOk Try.prog 5 c5 r5 :=
  ⟨Try.f5, _, Try.func5, by kernel_rfl, rfl, by kernel_rfl, by kernel_rfl⟩
/-- rill/rilllaw06.NamesApart -/
def c6 : ACode :=
  (.seq
  (.ops [0] [
    ⟨(.some 2), .mv, [(.c (.bool false))], none, 0, 0⟩])
  (.seq
  (.seq
  (.ops [0, 9] [
    ⟨(.some 8), .mv, [(.t 0)], none, 0, 0⟩,
    ⟨(.some 9), (.call 28), [(.t 8), (.c (.int .i64 100)), (.c (.int .i64 4096))], none, 0, 0⟩])
  (.cond (.t 9)
    (.seq
    (.ops [2] [
      ⟨(.some 10), (.call 10), [], none, 0, 0⟩,
      ⟨(.some 2), .mv, [(.t 10)], none, 0, 0⟩])
    .ret)
    .skip))
  (.seq
  (.ops [0, 3] [
    ⟨(.some 11), (.call 11), [], none, 0, 0⟩,
    ⟨(.some 3), .mv, [(.t 11)], none, 0, 0⟩])
  (.seq
  (.ops [0, 3, 4] [
    ⟨(.some 4), .mv, [(.c .nils)], none, 0, 0⟩])
  (.seq
  (.seq
  (.ops [0, 3, 4, 5] [
    ⟨(.some 5), .mv, [(.c (.int .i64 0))], none, 0, 0⟩])
  (.block 0
    (.loop [0, 3, 4, 5]
      (.seq
      (.seq
      (.ops [0, 3, 4, 5, 15] [
        ⟨(.some 12), .mv, [(.t 5)], none, 0, 0⟩,
        ⟨(.some 13), .mv, [(.t 0)], none, 0, 0⟩,
        ⟨(.some 14), .len, [(.t 13)], none, 0, 0⟩,
        ⟨(.some 15), (.cmp .lss), [(.t 12), (.t 14)], none, 0, 0⟩])
      (.cond (.t 15)
        .skip
        (.exit 0)))
      (.seq
      (.block 1
        (.ops [0, 3, 4, 5] [
          ⟨(.some 18), .mv, [(.t 4)], none, 0, 0⟩,
          ⟨(.some 19), .mv, [(.t 3)], none, 0, 0⟩,
          ⟨(.some 20), .mv, [(.t 0)], none, 0, 0⟩,
          ⟨(.some 21), .mv, [(.t 5)], none, 0, 0⟩,
          ⟨(.some 22), (.idxAddr 1), [(.t 20), (.t 21)], none, 0, 0⟩,
          ⟨(.some 23), (.load false 1), [(.t 22)], none, 0, 0⟩,
          ⟨(.some 24), (.call 22), [(.t 19), (.t 23)], none, 0, 0⟩,
          ⟨(.some 25), (.mkSl 1 (List.replicate 32 (.int .u8 0)) [(0, 32)]), [(.t 24)], none, 0, 0⟩,
          ⟨(.some 26), (.append 32 32), [(.t 18), (.t 25)], none, 0, 0⟩,
          ⟨(.some 4), .mv, [(.t 26)], none, 0, 0⟩]))
      (.ops [0, 3, 4, 5] [
        ⟨(.some 16), .mv, [(.t 5)], none, 0, 0⟩,
        ⟨(.some 17), (.arith .add), [(.t 16), (.c (.int .i64 1))], none, 0, 0⟩,
        ⟨(.some 5), .mv, [(.t 17)], none, 0, 0⟩]))))))
  (.seq
  (.seq
  (.ops [0, 3, 4, 6] [
    ⟨(.some 6), .mv, [(.c (.int .i64 0))], none, 0, 0⟩])
  (.block 2
    (.loop [0, 3, 4, 6]
      (.seq
      (.seq
      (.ops [0, 3, 4, 6, 30] [
        ⟨(.some 27), .mv, [(.t 6)], none, 0, 0⟩,
        ⟨(.some 28), .mv, [(.t 0)], none, 0, 0⟩,
        ⟨(.some 29), .len, [(.t 28)], none, 0, 0⟩,
        ⟨(.some 30), (.cmp .lss), [(.t 27), (.t 29)], none, 0, 0⟩])
      (.cond (.t 30)
        .skip
        (.exit 2)))
      (.seq
      (.block 3
        (.seq
        (.seq
        (.ops [0, 3, 4, 6, 7] [
          ⟨(.some 7), .mv, [(.c (.int .i64 0))], none, 0, 0⟩])
        (.block 4
          (.loop [0, 3, 4, 6, 7]
            (.seq
            (.seq
            (.ops [0, 3, 4, 6, 7, 36] [
              ⟨(.some 33), .mv, [(.t 7)], none, 0, 0⟩,
              ⟨(.some 34), .mv, [(.t 0)], none, 0, 0⟩,
              ⟨(.some 35), .len, [(.t 34)], none, 0, 0⟩,
              ⟨(.some 36), (.cmp .lss), [(.t 33), (.t 35)], none, 0, 0⟩])
            (.cond (.t 36)
              .skip
              (.exit 4)))
            (.seq
            (.block 5
              (.seq
              (.drawn [0, 3, 4, 6, 7, 57] [
                ⟨(.some 39), .mv, [(.t 4)], none, 0, 1⟩,
                ⟨(.some 40), .mv, [(.t 6)], none, 0, 1⟩,
                ⟨(.some 41), (.idxAddr 32), [(.t 39), (.t 40)], none, 0, 1⟩,
                ⟨(.some 42), (.load true 32), [(.t 41)], none, 0, 1⟩,
                ⟨(.some 43), .mv, [(.t 4)], none, 0, 1⟩,
                ⟨(.some 44), .mv, [(.t 7)], none, 0, 1⟩,
                ⟨(.some 45), (.idxAddr 32), [(.t 43), (.t 44)], none, 0, 1⟩,
                ⟨(.some 46), (.load true 32), [(.t 45)], none, 0, 1⟩,
                ⟨(.some 47), (.eqAgg false (List.replicate 32 .i)), [(.t 42), (.t 46)], none, 0, 1⟩,
                ⟨(.some 48), .mv, [(.t 0)], none, 0, 0⟩,
                ⟨(.some 49), .mv, [(.t 6)], none, 0, 0⟩,
                ⟨(.some 50), (.idxAddr 1), [(.t 48), (.t 49)], none, 0, 0⟩,
                ⟨(.some 51), (.load false 1), [(.t 50)], none, 0, 0⟩,
                ⟨(.some 52), .mv, [(.t 0)], none, 0, 0⟩,
                ⟨(.some 53), .mv, [(.t 7)], none, 0, 0⟩,
                ⟨(.some 54), (.idxAddr 1), [(.t 52), (.t 53)], none, 0, 0⟩,
                ⟨(.some 55), (.load false 1), [(.t 54)], none, 0, 0⟩,
                ⟨(.some 56), (.call 18), [(.t 51), (.t 55)], none, 0, 1⟩,
                ⟨(.some 57), (.eq true .bool), [(.t 47), (.t 56)], none, 1, 1⟩])
              (.cond (.t 57)
                (.seq
                (.ops [2] [
                  ⟨(.some 2), .mv, [(.c (.bool false))], none, 0, 0⟩])
                .ret)
                .skip)))
            (.ops [0, 3, 4, 6, 7] [
              ⟨(.some 37), .mv, [(.t 7)], none, 0, 0⟩,
              ⟨(.some 38), (.arith .add), [(.t 37), (.c (.int .i64 1))], none, 0, 0⟩,
              ⟨(.some 7), .mv, [(.t 38)], none, 0, 0⟩]))))))
        (.seq
        (.drawn [0, 3, 4, 6, 68] [
          ⟨(.some 58), .mv, [(.t 3)], none, 0, 0⟩,
          ⟨(.some 59), .mv, [(.t 0)], none, 0, 0⟩,
          ⟨(.some 60), .mv, [(.t 6)], none, 0, 0⟩,
          ⟨(.some 61), (.idxAddr 1), [(.t 59), (.t 60)], none, 0, 0⟩,
          ⟨(.some 62), (.load false 1), [(.t 61)], none, 0, 0⟩,
          ⟨(.some 63), (.call 22), [(.t 58), (.t 62)], none, 0, 1⟩,
          ⟨(.some 64), .mv, [(.t 4)], none, 0, 1⟩,
          ⟨(.some 65), .mv, [(.t 6)], none, 0, 1⟩,
          ⟨(.some 66), (.idxAddr 32), [(.t 64), (.t 65)], none, 0, 1⟩,
          ⟨(.some 67), (.load true 32), [(.t 66)], none, 0, 1⟩,
          ⟨(.some 68), (.eqAgg true (List.replicate 32 .i)), [(.t 63), (.t 67)], none, 1, 1⟩])
        (.cond (.t 68)
          (.seq
          (.ops [2] [
            ⟨(.some 2), .mv, [(.c (.bool false))], none, 0, 0⟩])
          .ret)
          .skip))))
      (.ops [0, 3, 4, 6] [
        ⟨(.some 31), .mv, [(.t 6)], none, 0, 0⟩,
        ⟨(.some 32), (.arith .add), [(.t 31), (.c (.int .i64 1))], none, 0, 0⟩,
        ⟨(.some 6), .mv, [(.t 32)], none, 0, 0⟩]))))))
  (.seq
  (.ops [2] [
    ⟨(.some 69), (.call 10), [], none, 0, 0⟩,
    ⟨(.some 2), .mv, [(.t 69)], none, 0, 0⟩])
  .ret)))))))
def r6 : List ARes := [(.tmp 2)]
theorem ok6 : FnOk Try.prog 6 c6 r6 :=
  ⟨Try.f6, _, Try.func6, by kernel_rfl, rfl, by kernel_rfl, by kernel_rfl⟩
/-- rill/rilllaw06.NamesKnown -/
def c7 : ACode :=
  (.seq
  (.ops [] [
    ⟨(.some 0), .mv, [(.c (.bool false))], none, 0, 0⟩])
  (.seq
  (.ops [1] [
    ⟨(.some 9), (.mkSl 8 [(.int .i64 0), (.int .i64 0), (.int .i64 0), (.int .i64 0), (.int .i64 0), (.int .i64 0), (.int .i64 0), (.int .i64 0)] [(0, 1), (1, 1), (2, 1), (3, 1), (4, 1), (5, 1), (6, 1), (7, 1)]), [(.c (.int .i64 (-9223372036854775808))), (.c (.int .i64 (-1))), (.c (.int .i64 0)), (.c (.int .i64 1)), (.c (.int .i64 2)), (.c (.int .i64 1099511627776)), (.c (.int .i64 1099511627777)), (.c (.int .i64 9223372036854775807))], none, 0, 0⟩,
    ⟨(.some 1), .mv, [(.t 9)], none, 0, 0⟩])
  (.seq
  (.ops [1, 2] [
    ⟨(.some 2), .mv, [(.c .nils)], none, 0, 0⟩])
  (.seq
  (.seq
  (.ops [1, 2, 3] [
    ⟨(.some 3), .mv, [(.c (.int .i64 0))], none, 0, 0⟩])
  (.block 0
    (.loop [1, 2, 3]
      (.seq
      (.seq
      (.ops [1, 2, 3, 13] [
        ⟨(.some 10), .mv, [(.t 3)], none, 0, 0⟩,
        ⟨(.some 11), .mv, [(.t 1)], none, 0, 0⟩,
        ⟨(.some 12), .len, [(.t 11)], none, 0, 0⟩,
        ⟨(.some 13), (.cmp .lss), [(.t 10), (.t 12)], none, 0, 0⟩])
      (.cond (.t 13)
        .skip
        (.exit 0)))
      (.seq
      (.block 1
        (.seq
        (.ops [1, 2, 3, 4] [
          ⟨(.some 4), .mv, [(.c (.int .i64 0))], none, 0, 0⟩])
        (.block 2
          (.loop [1, 2, 3, 4]
            (.seq
            (.seq
            (.ops [1, 2, 3, 4, 19] [
              ⟨(.some 16), .mv, [(.t 4)], none, 0, 0⟩,
              ⟨(.some 17), .mv, [(.t 1)], none, 0, 0⟩,
              ⟨(.some 18), .len, [(.t 17)], none, 0, 0⟩,
              ⟨(.some 19), (.cmp .lss), [(.t 16), (.t 18)], none, 0, 0⟩])
            (.cond (.t 19)
              .skip
              (.exit 2)))
            (.seq
            (.block 3
              (.drawn [1, 2, 3, 4] [
                ⟨(.some 22), .mv, [(.t 2)], none, 0, 0⟩,
                ⟨(.some 23), .mv, [(.t 1)], none, 0, 0⟩,
                ⟨(.some 24), .mv, [(.t 3)], none, 0, 0⟩,
                ⟨(.some 25), (.idxAddr 1), [(.t 23), (.t 24)], none, 0, 0⟩,
                ⟨(.some 26), (.load false 1), [(.t 25)], none, 0, 0⟩,
                ⟨(.some 27), .mv, [(.t 1)], none, 0, 0⟩,
                ⟨(.some 28), .mv, [(.t 4)], none, 0, 0⟩,
                ⟨(.some 29), (.idxAddr 1), [(.t 27), (.t 28)], none, 0, 0⟩,
                ⟨(.some 30), (.load false 1), [(.t 29)], none, 0, 0⟩,
                ⟨(.some 31), (.mkSl 1 [(.int .u8 0)] [(0, 1)]), [(.c (.int .u8 7))], none, 0, 0⟩,
                ⟨(.some 32), (.mkSl 2 [(.int .u8 0), (.int .u8 0)] [(0, 1), (1, 1)]), [(.c (.int .u8 8)), (.c (.int .u8 9))], none, 0, 0⟩,
                ⟨(.some 33), (.build [(.int .i64 0), (.int .i64 0), (.int .i64 0), (.int .i64 0), .nils, .nils, (.int .u8 0)] [(1, 1), (2, 1), (4, 1), (5, 1)]), [(.t 26), (.t 30), (.t 31), (.t 32)], none, 0, 0⟩,
                ⟨(.some 34), .mv, [(.t 1)], none, 0, 0⟩,
                ⟨(.some 35), .mv, [(.t 4)], none, 0, 0⟩,
                ⟨(.some 36), (.idxAddr 1), [(.t 34), (.t 35)], none, 0, 0⟩,
                ⟨(.some 37), (.load false 1), [(.t 36)], none, 0, 0⟩,
                ⟨(.some 38), .mv, [(.t 1)], none, 0, 0⟩,
                ⟨(.some 39), .mv, [(.t 3)], none, 0, 0⟩,
                ⟨(.some 40), (.idxAddr 1), [(.t 38), (.t 39)], none, 0, 0⟩,
                ⟨(.some 41), (.load false 1), [(.t 40)], none, 0, 0⟩,
                ⟨(.some 42), .mv, [(.t 4)], none, 0, 0⟩,
                ⟨(.some 43), (.mkSl 1 [(.int .u8 0)] [(0, 1)]), [(.c (.int .u8 7))], none, 0, 0⟩,
                ⟨(.some 44), (.build [(.int .i64 0), (.int .i64 0), (.int .i64 0), (.int .i64 0), .nils, .nils, (.int .u8 0)] [(0, 1), (1, 1), (2, 1), (3, 1), (4, 1)]), [(.c (.int .i64 3)), (.t 37), (.t 41), (.t 42), (.t 43)], none, 0, 0⟩,
                ⟨(.some 45), (.mkSl 2 [(.int .i64 0), (.int .i64 0), (.int .i64 0), (.int .i64 0), .nils, .nils, (.int .u8 0), (.int .i64 0), (.int .i64 0), (.int .i64 0), (.int .i64 0), .nils, .nils, (.int .u8 0)] [(0, 7), (7, 7)]), [(.t 33), (.t 44)], none, 0, 0⟩,
                ⟨(.some 46), (.append 7 88), [(.t 22), (.t 45)], none, 0, 1⟩,
                ⟨(.some 2), .mv, [(.t 46)], none, 1, 1⟩]))
            (.ops [1, 2, 3, 4] [
              ⟨(.some 20), .mv, [(.t 4)], none, 0, 0⟩,
              ⟨(.some 21), (.arith .add), [(.t 20), (.c (.int .i64 1))], none, 0, 0⟩,
              ⟨(.some 4), .mv, [(.t 21)], none, 0, 0⟩])))))))
      (.ops [1, 2, 3] [
        ⟨(.some 14), .mv, [(.t 3)], none, 0, 0⟩,
        ⟨(.some 15), (.arith .add), [(.t 14), (.c (.int .i64 1))], none, 0, 0⟩,
        ⟨(.some 3), .mv, [(.t 15)], none, 0, 0⟩]))))))
  (.seq
  (.seq
  (.ops [49] [
    ⟨(.some 47), .mv, [(.t 2)], none, 0, 0⟩,
    ⟨(.some 48), (.call 3), [(.t 47)], none, 0, 0⟩,
    ⟨(.some 49), .not, [(.t 48)], none, 0, 0⟩])
  (.cond (.t 49)
    (.seq
    (.ops [0] [
      ⟨(.some 0), .mv, [(.c (.bool false))], none, 0, 0⟩])
    .ret)
    .skip))
  (.seq
  (.ops [5] [
    ⟨(.some 50), (.call 29), [], none, 0, 0⟩,
    ⟨(.some 51), (.mkSl 1 [(.int .u8 0)] [(0, 1)]), [(.c (.int .u8 7))], none, 0, 0⟩,
    ⟨(.some 52), (.mkSl 2 [(.int .u8 0), (.int .u8 0)] [(0, 1), (1, 1)]), [(.c (.int .u8 8)), (.c (.int .u8 9))], none, 0, 0⟩,
    ⟨(.some 53), (.invoke "Seal"), [(.t 50), (.c (.int .i64 1)), (.c (.int .i64 2)), (.t 51), (.t 52)], none, 0, 0⟩,
    ⟨(.some 5), .mv, [(.t 53)], none, 0, 0⟩])
  (.seq
  (.ops [5, 6] [
    ⟨(.some 54), (.mkSl 1 [(.int .u8 0)] [(0, 1)]), [(.c (.int .u8 7))], none, 0, 0⟩,
    ⟨(.some 55), (.mkSl 2 [(.int .u8 0), (.int .u8 0)] [(0, 1), (1, 1)]), [(.c (.int .u8 8)), (.c (.int .u8 9))], none, 0, 0⟩,
    ⟨(.some 56), (.build [(.int .i64 0), (.int .i64 0), .nils, .nils] [(0, 1), (1, 1), (2, 1), (3, 1)]), [(.c (.int .i64 1)), (.c (.int .i64 2)), (.t 54), (.t 55)], none, 0, 0⟩,
    ⟨(.some 57), (.mkSl 1 [(.int .u8 0)] [(0, 1)]), [(.c (.int .u8 7))], none, 0, 0⟩,
    ⟨(.some 58), (.mkSl 2 [(.int .u8 0), (.int .u8 0)] [(0, 1), (1, 1)]), [(.c (.int .u8 8)), (.c (.int .u8 9))], none, 0, 0⟩,
    ⟨(.some 59), (.build [(.int .i64 0), (.int .i64 0), .nils, .nils] [(0, 1), (1, 1), (2, 1), (3, 1)]), [(.c (.int .i64 1)), (.c (.int .i64 3)), (.t 57), (.t 58)], none, 0, 0⟩,
    ⟨(.some 60), .mv, [(.t 5)], none, 0, 0⟩,
    ⟨(.some 61), (.build [(.int .i64 0), (.int .i64 0), .nils, .nils] [(0, 1), (1, 1), (3, 1)]), [(.c (.int .i64 1)), (.c (.int .i64 2)), (.t 60)], none, 0, 0⟩,
    ⟨(.some 62), (.build [(.int .i64 0), (.int .i64 0), .nils, .nils] [(0, 1)]), [(.c (.int .i64 (-1)))], none, 0, 0⟩,
    ⟨(.some 63), (.mkSl 4 [(.int .i64 0), (.int .i64 0), .nils, .nils, (.int .i64 0), (.int .i64 0), .nils, .nils, (.int .i64 0), (.int .i64 0), .nils, .nils, (.int .i64 0), (.int .i64 0), .nils, .nils] [(0, 4), (4, 4), (8, 4), (12, 4)]), [(.t 56), (.t 59), (.t 61), (.t 62)], none, 0, 0⟩,
    ⟨(.some 6), .mv, [(.t 63)], none, 0, 0⟩])
  (.seq
  (.seq
  (.ops [5, 6, 7] [
    ⟨(.some 7), .mv, [(.c (.int .i64 0))], none, 0, 0⟩])
  (.block 4
    (.loop [5, 6, 7]
      (.seq
      (.seq
      (.ops [5, 6, 7, 67] [
        ⟨(.some 64), .mv, [(.t 7)], none, 0, 0⟩,
        ⟨(.some 65), .mv, [(.t 5)], none, 0, 0⟩,
        ⟨(.some 66), .len, [(.t 65)], none, 0, 0⟩,
        ⟨(.some 67), (.cmp .lss), [(.t 64), (.t 66)], none, 0, 0⟩])
      (.cond (.t 67)
        .skip
        (.exit 4)))
      (.seq
      (.block 5
        (.seq
        (.ops [5, 6, 7, 8] [
          ⟨(.some 70), .mv, [(.t 5)], none, 0, 0⟩,
          ⟨(.some 71), (.call 30), [(.t 70)], none, 0, 0⟩,
          ⟨(.some 8), .mv, [(.t 71)], none, 0, 0⟩])
        (.seq
        (.ops [5, 6, 7, 8] [
          ⟨(.some 72), .mv, [(.t 8)], none, 0, 0⟩,
          ⟨(.some 73), .mv, [(.t 7)], none, 0, 0⟩,
          ⟨(.some 74), .mv, [(.t 8)], none, 0, 0⟩,
          ⟨(.some 75), .mv, [(.t 7)], none, 0, 0⟩,
          ⟨(.some 76), (.idxAddr 1), [(.t 74), (.t 75)], none, 0, 0⟩,
          ⟨(.some 77), (.load false 1), [(.t 76)], none, 0, 0⟩,
          ⟨(.some 78), (.arith .xor), [(.t 77), (.c (.int .u8 2))], none, 0, 0⟩,
          ⟨(.some 79), (.idxAddr 1), [(.t 72), (.t 73)], none, 0, 0⟩,
          ⟨none, (.store 1), [(.t 79), (.t 78)], none, 0, 0⟩])
        (.seq
        (.ops [5, 6, 7, 102] [
          ⟨(.some 80), .mv, [(.t 6)], none, 0, 0⟩,
          ⟨(.some 81), (.mkSl 1 [(.int .u8 0)] [(0, 1)]), [(.c (.int .u8 7))], none, 0, 0⟩,
          ⟨(.some 82), .mv, [(.t 8)], none, 0, 0⟩,
          ⟨(.some 83), (.call 5), [(.t 80), (.c (.int .i64 1)), (.c (.int .i64 2)), (.t 81), (.t 82)], none, 0, 0⟩,
          ⟨(.some 84), .not, [(.t 83)], none, 0, 0⟩,
          ⟨(.some 85), .mv, [(.t 84)], none, 0, 0⟩,
          ⟨(.some 86), .mv, [(.t 6)], (.some (85, false)), 0, 0⟩,
          ⟨(.some 87), (.mkSl 1 [(.int .u8 0)] [(0, 1)]), [(.c (.int .u8 7))], (.some (85, false)), 0, 0⟩,
          ⟨(.some 88), .mv, [(.t 5)], (.some (85, false)), 0, 0⟩,
          ⟨(.some 89), .mv, [(.t 7)], (.some (85, false)), 0, 0⟩,
          ⟨(.some 90), (.slice 1 false true false), [(.t 88), (.t 89)], (.some (85, false)), 0, 0⟩,
          ⟨(.some 91), (.call 5), [(.t 86), (.c (.int .i64 1)), (.c (.int .i64 2)), (.t 87), (.t 90)], (.some (85, false)), 0, 0⟩,
          ⟨(.some 92), .not, [(.t 91)], (.some (85, false)), 0, 0⟩,
          ⟨(.some 93), .pick, [(.t 85), (.c (.bool true)), (.t 92)], none, 0, 0⟩,
          ⟨(.some 94), .mv, [(.t 93)], none, 0, 0⟩,
          ⟨(.some 95), .mv, [(.t 6)], (.some (94, false)), 0, 0⟩,
          ⟨(.some 96), (.mkSl 1 [(.int .u8 0)] [(0, 1)]), [(.c (.int .u8 7))], (.some (94, false)), 0, 0⟩,
          ⟨(.some 97), .mv, [(.t 5)], (.some (94, false)), 0, 0⟩,
          ⟨(.some 98), .mv, [(.t 7)], (.some (94, false)), 0, 0⟩,
          ⟨(.some 99), (.slice 1 true false false), [(.t 97), (.t 98)], (.some (94, false)), 0, 0⟩,
          ⟨(.some 100), (.call 5), [(.t 95), (.c (.int .i64 1)), (.c (.int .i64 2)), (.t 96), (.t 99)], (.some (94, false)), 0, 0⟩,
          ⟨(.some 101), .not, [(.t 100)], (.some (94, false)), 0, 0⟩,
          ⟨(.some 102), .pick, [(.t 94), (.c (.bool true)), (.t 101)], none, 0, 0⟩])
        (.cond (.t 102)
          (.seq
          (.ops [0] [
            ⟨(.some 0), .mv, [(.c (.bool false))], none, 0, 0⟩])
          .ret)
          .skip)))))
      (.ops [5, 6, 7] [
        ⟨(.some 68), .mv, [(.t 7)], none, 0, 0⟩,
        ⟨(.some 69), (.arith .add), [(.t 68), (.c (.int .i64 1))], none, 0, 0⟩,
        ⟨(.some 7), .mv, [(.t 69)], none, 0, 0⟩]))))))
  (.seq
  (.ops [0] [
    ⟨(.some 103), .mv, [(.t 6)], none, 0, 0⟩,
    ⟨(.some 104), (.call 4), [(.t 103)], none, 0, 0⟩,
    ⟨(.some 105), .mv, [(.t 104)], none, 0, 0⟩,
    ⟨(.some 106), .mv, [(.t 6)], (.some (105, true)), 0, 0⟩,
    ⟨(.some 107), (.mkSl 1 [(.int .u8 0)] [(0, 1)]), [(.c (.int .u8 7))], (.some (105, true)), 0, 0⟩,
    ⟨(.some 108), .mv, [(.t 5)], (.some (105, true)), 0, 0⟩,
    ⟨(.some 109), (.call 5), [(.t 106), (.c (.int .i64 1)), (.c (.int .i64 2)), (.t 107), (.t 108)], (.some (105, true)), 0, 0⟩,
    ⟨(.some 110), .pick, [(.t 105), (.t 109), (.c (.bool false))], none, 0, 0⟩,
    ⟨(.some 111), .mv, [(.t 110)], none, 0, 0⟩,
    ⟨(.some 112), .mv, [(.t 6)], (.some (111, true)), 0, 0⟩,
    ⟨(.some 113), (.mkSl 1 [(.int .u8 0)] [(0, 1)]), [(.c (.int .u8 7))], (.some (111, true)), 0, 0⟩,
    ⟨(.some 114), .mv, [(.t 5)], (.some (111, true)), 0, 0⟩,
    ⟨(.some 115), (.call 5), [(.t 112), (.c (.int .i64 1)), (.c (.int .i64 3)), (.t 113), (.t 114)], (.some (111, true)), 0, 0⟩,
    ⟨(.some 116), .pick, [(.t 111), (.t 115), (.c (.bool false))], none, 0, 0⟩,
    ⟨(.some 117), .mv, [(.t 116)], none, 0, 0⟩,
    ⟨(.some 118), (.mkSl 1 [(.int .u8 0)] [(0, 1)]), [(.c (.int .u8 5))], (.some (117, true)), 0, 0⟩,
    ⟨(.some 119), (.mkSl 2 [(.int .u8 0), (.int .u8 0)] [(0, 1), (1, 1)]), [(.c (.int .u8 5)), (.c (.int .u8 5))], (.some (117, true)), 0, 0⟩,
    ⟨(.some 120), (.mkSl 0 [] []), [], (.some (117, true)), 0, 0⟩,
    ⟨(.some 121), (.mkSl 1 [(.int .u8 0)] [(0, 1)]), [(.c (.int .u8 0))], (.some (117, true)), 0, 0⟩,
    ⟨(.some 122), (.mkSl 1 [(.int .u8 0)] [(0, 1)]), [(.c (.int .u8 5))], (.some (117, true)), 0, 0⟩,
    ⟨(.some 123), (.mkSl 7 [.nils, .nils, .nils, .nils, .nils, .nils, .nils] [(0, 1), (1, 1), (2, 1), (3, 1), (4, 1), (5, 1), (6, 1)]), [(.c .nils), (.t 118), (.c .nils), (.t 119), (.t 120), (.t 121), (.t 122)], (.some (117, true)), 0, 0⟩,
    ⟨(.some 124), (.call 6), [(.t 123)], (.some (117, true)), 0, 0⟩,
    ⟨(.some 125), .pick, [(.t 117), (.t 124), (.c (.bool false))], none, 0, 0⟩,
    ⟨(.some 126), .mv, [(.t 125)], none, 0, 0⟩,
    ⟨(.some 127), (.call 10), [], (.some (126, true)), 0, 0⟩,
    ⟨(.some 128), .pick, [(.t 126), (.t 127), (.c (.bool false))], none, 0, 0⟩,
    ⟨(.some 0), .mv, [(.t 128)], none, 0, 0⟩])
  .ret)))))))))
def r7 : List ARes := [(.tmp 0)]
theorem ok7 : FnOk Try.prog 7 c7 r7 :=
  ⟨Try.f7, _, Try.func7, by kernel_rfl, rfl, by kernel_rfl, by kernel_rfl⟩
/-- rill/rilllaw06.NamesStays -/
def c8 : ACode :=
  (.seq
  (.ops [0, 1] [
    ⟨(.some 4), .mv, [(.c (.bool false))], none, 0, 0⟩])
  (.seq
  (.seq
  (.ops [0, 1, 17] [
    ⟨(.some 11), .mv, [(.t 0)], none, 0, 0⟩,
    ⟨(.some 12), (.call 25), [(.t 11)], none, 0, 0⟩,
    ⟨(.some 13), .mv, [(.t 12)], none, 0, 0⟩,
    ⟨(.some 14), .mv, [(.t 1)], (.some (13, false)), 0, 0⟩,
    ⟨(.some 15), .len, [(.t 14)], (.some (13, false)), 0, 0⟩,
    ⟨(.some 16), (.cmp .gtr), [(.t 15), (.c (.int .i64 4096))], (.some (13, false)), 0, 0⟩,
    ⟨(.some 17), .pick, [(.t 13), (.c (.bool true)), (.t 16)], none, 0, 0⟩])
  (.cond (.t 17)
    (.seq
    (.ops [4] [
      ⟨(.some 18), (.call 10), [], none, 0, 0⟩,
      ⟨(.some 4), .mv, [(.t 18)], none, 0, 0⟩])
    .ret)
    .skip))
  (.seq
  (.ops [0, 1, 5] [
    ⟨(.some 19), (.call 11), [], none, 0, 0⟩,
    ⟨(.some 5), .mv, [(.t 19)], none, 0, 0⟩])
  (.seq
  (.ops [0, 1, 5, 6] [
    ⟨(.some 20), (.call 11), [], none, 0, 0⟩,
    ⟨(.some 6), .mv, [(.t 20)], none, 0, 0⟩])
  (.seq
  (.ops [0, 1, 5, 6, 7] [
    ⟨(.some 21), (.call 11), [], none, 0, 0⟩,
    ⟨(.some 7), .mv, [(.t 21)], none, 0, 0⟩])
  (.seq
  (.seq
  (.ops [0, 1, 5, 6, 7, 8] [
    ⟨(.some 8), .mv, [(.c (.int .i64 0))], none, 0, 0⟩])
  (.block 0
    (.loop [0, 1, 5, 6, 7, 8]
      (.seq
      (.seq
      (.ops [0, 1, 5, 6, 7, 8, 25] [
        ⟨(.some 22), .mv, [(.t 8)], none, 0, 0⟩,
        ⟨(.some 23), .mv, [(.t 0)], none, 0, 0⟩,
        ⟨(.some 24), .len, [(.t 23)], none, 0, 0⟩,
        ⟨(.some 25), (.cmp .lss), [(.t 22), (.t 24)], none, 0, 0⟩])
      (.cond (.t 25)
        .skip
        (.exit 0)))
      (.seq
      (.block 1
        (.seq
        (.drawn [0, 1, 5, 6, 7, 8, 9] [
          ⟨(.some 28), .mv, [(.t 5)], none, 0, 0⟩,
          ⟨(.some 29), .mv, [(.t 0)], none, 0, 0⟩,
          ⟨(.some 30), .mv, [(.t 8)], none, 0, 0⟩,
          ⟨(.some 31), (.idxAddr 4), [(.t 29), (.t 30)], none, 0, 0⟩,
          ⟨(.some 32), (.fieldAddr 0), [(.t 31)], none, 0, 0⟩,
          ⟨(.some 33), (.load false 1), [(.t 32)], none, 0, 0⟩,
          ⟨(.some 34), .mv, [(.t 0)], none, 0, 0⟩,
          ⟨(.some 35), .mv, [(.t 8)], none, 0, 0⟩,
          ⟨(.some 36), (.idxAddr 4), [(.t 34), (.t 35)], none, 0, 0⟩,
          ⟨(.some 37), (.fieldAddr 1), [(.t 36)], none, 0, 0⟩,
          ⟨(.some 38), (.load false 1), [(.t 37)], none, 0, 0⟩,
          ⟨(.some 39), .mv, [(.t 0)], none, 0, 0⟩,
          ⟨(.some 40), .mv, [(.t 8)], none, 0, 0⟩,
          ⟨(.some 41), (.idxAddr 4), [(.t 39), (.t 40)], none, 0, 0⟩,
          ⟨(.some 42), (.fieldAddr 2), [(.t 41)], none, 0, 0⟩,
          ⟨(.some 43), (.load false 1), [(.t 42)], none, 0, 0⟩,
          ⟨(.some 44), .mv, [(.t 0)], none, 0, 0⟩,
          ⟨(.some 45), .mv, [(.t 8)], none, 0, 0⟩,
          ⟨(.some 46), (.idxAddr 4), [(.t 44), (.t 45)], none, 0, 0⟩,
          ⟨(.some 47), (.fieldAddr 3), [(.t 46)], none, 0, 0⟩,
          ⟨(.some 48), (.load false 1), [(.t 47)], none, 0, 0⟩,
          ⟨(.some 49), (.call 16), [(.t 28), (.t 33), (.t 38), (.t 43), (.t 48)], none, 0, 1⟩,
          ⟨(.some 9), .mv, [(.t 49)], none, 1, 1⟩])
        (.seq
        (.ops [0, 1, 5, 6, 7, 8, 9] [
          ⟨(.some 50), .mv, [(.t 6)], none, 0, 0⟩,
          ⟨(.some 51), .mv, [(.t 0)], none, 0, 0⟩,
          ⟨(.some 52), .mv, [(.t 8)], none, 0, 0⟩,
          ⟨(.some 53), (.idxAddr 4), [(.t 51), (.t 52)], none, 0, 0⟩,
          ⟨(.some 54), (.fieldAddr 3), [(.t 53)], none, 0, 0⟩,
          ⟨(.some 55), (.load false 1), [(.t 54)], none, 0, 0⟩,
          ⟨(.some 56), (.call 22), [(.t 50), (.t 55)], none, 0, 0⟩])
        (.seq
        (.drawn [0, 1, 5, 6, 7, 8, 9] [
          ⟨(.some 57), .mv, [(.t 6)], none, 0, 0⟩,
          ⟨(.some 58), .mv, [(.t 0)], none, 0, 0⟩,
          ⟨(.some 59), .mv, [(.t 8)], none, 0, 0⟩,
          ⟨(.some 60), (.idxAddr 4), [(.t 58), (.t 59)], none, 0, 0⟩,
          ⟨(.some 61), (.fieldAddr 0), [(.t 60)], none, 0, 0⟩,
          ⟨(.some 62), (.load false 1), [(.t 61)], none, 0, 0⟩,
          ⟨(.some 63), .mv, [(.t 0)], none, 0, 0⟩,
          ⟨(.some 64), .mv, [(.t 8)], none, 0, 0⟩,
          ⟨(.some 65), (.idxAddr 4), [(.t 63), (.t 64)], none, 0, 0⟩,
          ⟨(.some 66), (.fieldAddr 1), [(.t 65)], none, 0, 0⟩,
          ⟨(.some 67), (.load false 1), [(.t 66)], none, 0, 0⟩,
          ⟨(.some 68), .mv, [(.t 0)], none, 0, 0⟩,
          ⟨(.some 69), .mv, [(.t 8)], none, 0, 0⟩,
          ⟨(.some 70), (.idxAddr 4), [(.t 68), (.t 69)], none, 0, 0⟩,
          ⟨(.some 71), (.fieldAddr 2), [(.t 70)], none, 0, 0⟩,
          ⟨(.some 72), (.load false 1), [(.t 71)], none, 0, 0⟩,
          ⟨(.some 73), .mv, [(.t 1)], none, 0, 0⟩,
          ⟨(.some 74), (.call 20), [(.t 57), (.t 62), (.t 67), (.t 72), (.t 73)], none, 0, 1⟩])
        (.seq
        (.drawn [0, 1, 5, 6, 7, 8, 9, 10] [
          ⟨(.some 75), .mv, [(.t 6)], none, 0, 0⟩,
          ⟨(.some 76), .mv, [(.t 0)], none, 0, 0⟩,
          ⟨(.some 77), .mv, [(.t 8)], none, 0, 0⟩,
          ⟨(.some 78), (.idxAddr 4), [(.t 76), (.t 77)], none, 0, 0⟩,
          ⟨(.some 79), (.fieldAddr 0), [(.t 78)], none, 0, 0⟩,
          ⟨(.some 80), (.load false 1), [(.t 79)], none, 0, 0⟩,
          ⟨(.some 81), .mv, [(.t 0)], none, 0, 0⟩,
          ⟨(.some 82), .mv, [(.t 8)], none, 0, 0⟩,
          ⟨(.some 83), (.idxAddr 4), [(.t 81), (.t 82)], none, 0, 0⟩,
          ⟨(.some 84), (.fieldAddr 1), [(.t 83)], none, 0, 0⟩,
          ⟨(.some 85), (.load false 1), [(.t 84)], none, 0, 0⟩,
          ⟨(.some 86), .mv, [(.t 0)], none, 0, 0⟩,
          ⟨(.some 87), .mv, [(.t 8)], none, 0, 0⟩,
          ⟨(.some 88), (.idxAddr 4), [(.t 86), (.t 87)], none, 0, 0⟩,
          ⟨(.some 89), (.fieldAddr 2), [(.t 88)], none, 0, 0⟩,
          ⟨(.some 90), (.load false 1), [(.t 89)], none, 0, 0⟩,
          ⟨(.some 91), .mv, [(.t 0)], none, 0, 0⟩,
          ⟨(.some 92), .mv, [(.t 8)], none, 0, 0⟩,
          ⟨(.some 93), (.idxAddr 4), [(.t 91), (.t 92)], none, 0, 0⟩,
          ⟨(.some 94), (.fieldAddr 3), [(.t 93)], none, 0, 0⟩,
          ⟨(.some 95), (.load false 1), [(.t 94)], none, 0, 0⟩,
          ⟨(.some 96), (.call 16), [(.t 75), (.t 80), (.t 85), (.t 90), (.t 95)], none, 0, 1⟩,
          ⟨(.some 10), .mv, [(.t 96)], none, 1, 1⟩])
        (.seq
        (.drawn [0, 1, 5, 6, 7, 8, 9, 10] [
          ⟨(.some 97), .mv, [(.t 6)], none, 0, 0⟩,
          ⟨(.some 98), .mv, [(.t 0)], none, 0, 0⟩,
          ⟨(.some 99), .mv, [(.t 8)], none, 0, 0⟩,
          ⟨(.some 100), (.idxAddr 4), [(.t 98), (.t 99)], none, 0, 0⟩,
          ⟨(.some 101), (.fieldAddr 0), [(.t 100)], none, 0, 0⟩,
          ⟨(.some 102), (.load false 1), [(.t 101)], none, 0, 0⟩,
          ⟨(.some 103), .mv, [(.t 0)], none, 0, 0⟩,
          ⟨(.some 104), .mv, [(.t 8)], none, 0, 0⟩,
          ⟨(.some 105), (.idxAddr 4), [(.t 103), (.t 104)], none, 0, 0⟩,
          ⟨(.some 106), (.fieldAddr 1), [(.t 105)], none, 0, 0⟩,
          ⟨(.some 107), (.load false 1), [(.t 106)], none, 0, 0⟩,
          ⟨(.some 108), .mv, [(.t 0)], none, 0, 0⟩,
          ⟨(.some 109), .mv, [(.t 8)], none, 0, 0⟩,
          ⟨(.some 110), (.idxAddr 4), [(.t 108), (.t 109)], none, 0, 0⟩,
          ⟨(.some 111), (.fieldAddr 2), [(.t 110)], none, 0, 0⟩,
          ⟨(.some 112), (.load false 1), [(.t 111)], none, 0, 0⟩,
          ⟨(.some 113), .mv, [(.t 10)], none, 0, 0⟩,
          ⟨(.some 114), (.call 20), [(.t 97), (.t 102), (.t 107), (.t 112), (.t 113)], none, 0, 1⟩])
        (.seq
        (.drawn [0, 1, 5, 6, 7, 8, 135] [
          ⟨(.some 115), .mv, [(.t 9)], none, 0, 0⟩,
          ⟨(.some 116), .mv, [(.t 10)], none, 0, 0⟩,
          ⟨(.some 117), (.call 18), [(.t 115), (.t 116)], none, 0, 1⟩,
          ⟨(.some 118), .not, [(.t 117)], none, 1, 1⟩,
          ⟨(.some 119), .mv, [(.t 118)], none, 1, 1⟩,
          ⟨(.some 120), .mv, [(.t 7)], (.some (119, false)), 1, 1⟩,
          ⟨(.some 121), .mv, [(.t 0)], (.some (119, false)), 1, 1⟩,
          ⟨(.some 122), .mv, [(.t 8)], (.some (119, false)), 1, 1⟩,
          ⟨(.some 123), (.idxAddr 4), [(.t 121), (.t 122)], (.some (119, false)), 1, 1⟩,
          ⟨(.some 124), (.fieldAddr 3), [(.t 123)], (.some (119, false)), 1, 1⟩,
          ⟨(.some 125), (.load false 1), [(.t 124)], (.some (119, false)), 1, 1⟩,
          ⟨(.some 126), (.call 22), [(.t 120), (.t 125)], (.some (119, false)), 1, 2⟩,
          ⟨(.some 127), .mv, [(.t 6)], (.some (119, false)), 1, 2⟩,
          ⟨(.some 128), .mv, [(.t 0)], (.some (119, false)), 1, 2⟩,
          ⟨(.some 129), .mv, [(.t 8)], (.some (119, false)), 1, 2⟩,
          ⟨(.some 130), (.idxAddr 4), [(.t 128), (.t 129)], (.some (119, false)), 1, 2⟩,
          ⟨(.some 131), (.fieldAddr 3), [(.t 130)], (.some (119, false)), 1, 2⟩,
          ⟨(.some 132), (.load false 1), [(.t 131)], (.some (119, false)), 1, 2⟩,
          ⟨(.some 133), (.call 22), [(.t 127), (.t 132)], (.some (119, false)), 2, 3⟩,
          ⟨(.some 134), (.eqAgg true (List.replicate 32 .i)), [(.t 126), (.t 133)], (.some (119, false)), 3, 3⟩,
          ⟨(.some 135), .pick, [(.t 119), (.c (.bool true)), (.t 134)], none, 3, 3⟩])
        (.cond (.t 135)
          (.seq
          (.ops [4] [
            ⟨(.some 4), .mv, [(.c (.bool false))], none, 0, 0⟩])
          .ret)
          .skip))))))))
      (.ops [0, 1, 5, 6, 7, 8] [
        ⟨(.some 26), .mv, [(.t 8)], none, 0, 0⟩,
        ⟨(.some 27), (.arith .add), [(.t 26), (.c (.int .i64 1))], none, 0, 0⟩,
        ⟨(.some 8), .mv, [(.t 27)], none, 0, 0⟩]))))))
  (.seq
  (.ops [4] [
    ⟨(.some 136), (.call 10), [], none, 0, 0⟩,
    ⟨(.some 4), .mv, [(.t 136)], none, 0, 0⟩])
  .ret)))))))
def r8 : List ARes := [(.tmp 4)]
theorem ok8 : FnOk Try.prog 8 c8 r8 :=
  ⟨Try.f8, _, Try.func8, by kernel_rfl, rfl, by kernel_rfl, by kernel_rfl⟩
/-- rill/rilllaw06.long -/
def c9 : ACode :=
  (.seq
  (.ops [0] [
    ⟨(.some 2), .mv, [(.c (.bool false))], none, 0, 0⟩])
  (.seq
  (.seq
  (.ops [0, 6] [
    ⟨(.some 4), .mv, [(.t 0)], none, 0, 0⟩,
    ⟨(.some 5), .len, [(.t 4)], none, 0, 0⟩,
    ⟨(.some 6), (.cmp .gtr), [(.t 5), (.c (.int .i64 150))], none, 0, 0⟩])
  (.cond (.t 6)
    (.seq
    (.ops [2] [
      ⟨(.some 2), .mv, [(.c (.bool true))], none, 0, 0⟩])
    .ret)
    .skip))
  (.seq
  (.seq
  (.ops [0, 3] [
    ⟨(.some 3), .mv, [(.c (.int .i64 0))], none, 0, 0⟩])
  (.block 0
    (.loop [0, 3]
      (.seq
      (.seq
      (.ops [0, 3, 10] [
        ⟨(.some 7), .mv, [(.t 3)], none, 0, 0⟩,
        ⟨(.some 8), .mv, [(.t 0)], none, 0, 0⟩,
        ⟨(.some 9), .len, [(.t 8)], none, 0, 0⟩,
        ⟨(.some 10), (.cmp .lss), [(.t 7), (.t 9)], none, 0, 0⟩])
      (.cond (.t 10)
        .skip
        (.exit 0)))
      (.seq
      (.block 1
        (.seq
        (.ops [0, 3, 28] [
          ⟨(.some 13), .mv, [(.t 0)], none, 0, 0⟩,
          ⟨(.some 14), .mv, [(.t 3)], none, 0, 0⟩,
          ⟨(.some 15), (.idxAddr 7), [(.t 13), (.t 14)], none, 0, 0⟩,
          ⟨(.some 16), (.fieldAddr 4), [(.t 15)], none, 0, 0⟩,
          ⟨(.some 17), (.load false 1), [(.t 16)], none, 0, 0⟩,
          ⟨(.some 18), .len, [(.t 17)], none, 0, 0⟩,
          ⟨(.some 19), (.cmp .gtr), [(.t 18), (.c (.int .i64 1024))], none, 0, 0⟩,
          ⟨(.some 20), .mv, [(.t 19)], none, 0, 0⟩,
          ⟨(.some 21), .mv, [(.t 0)], (.some (20, false)), 0, 0⟩,
          ⟨(.some 22), .mv, [(.t 3)], (.some (20, false)), 0, 0⟩,
          ⟨(.some 23), (.idxAddr 7), [(.t 21), (.t 22)], (.some (20, false)), 0, 0⟩,
          ⟨(.some 24), (.fieldAddr 5), [(.t 23)], (.some (20, false)), 0, 0⟩,
          ⟨(.some 25), (.load false 1), [(.t 24)], (.some (20, false)), 0, 0⟩,
          ⟨(.some 26), .len, [(.t 25)], (.some (20, false)), 0, 0⟩,
          ⟨(.some 27), (.cmp .gtr), [(.t 26), (.c (.int .i64 4096))], (.some (20, false)), 0, 0⟩,
          ⟨(.some 28), .pick, [(.t 20), (.c (.bool true)), (.t 27)], none, 0, 0⟩])
        (.cond (.t 28)
          (.seq
          (.ops [2] [
            ⟨(.some 2), .mv, [(.c (.bool true))], none, 0, 0⟩])
          .ret)
          .skip)))
      (.ops [0, 3] [
        ⟨(.some 11), .mv, [(.t 3)], none, 0, 0⟩,
        ⟨(.some 12), (.arith .add), [(.t 11), (.c (.int .i64 1))], none, 0, 0⟩,
        ⟨(.some 3), .mv, [(.t 12)], none, 0, 0⟩]))))))
  (.seq
  (.ops [2] [
    ⟨(.some 2), .mv, [(.c (.bool false))], none, 0, 0⟩])
  .ret))))
def r9 : List ARes := [(.tmp 2)]
theorem ok9 : FnOk Try.prog 9 c9 r9 :=
  ⟨Try.f9, _, Try.func9, by kernel_rfl, rfl, by kernel_rfl, by kernel_rfl⟩
/-- rill/rilllaw06.works -/
def c10 : ACode :=
  (.seq
  (.ops [] [
    ⟨(.some 0), .mv, [(.c (.bool false))], none, 0, 0⟩])
  (.seq
  (.ops [1] [
    ⟨(.some 7), (.call 29), [], none, 0, 0⟩,
    ⟨(.some 1), .mv, [(.t 7)], none, 0, 0⟩])
  (.seq
  (.ops [1, 2] [
    ⟨(.some 8), .mv, [(.t 1)], none, 0, 0⟩,
    ⟨(.some 9), (.mkSl 1 [(.int .u8 0)] [(0, 1)]), [(.c (.int .u8 7))], none, 0, 0⟩,
    ⟨(.some 10), (.mkSl 2 [(.int .u8 0), (.int .u8 0)] [(0, 1), (1, 1)]), [(.c (.int .u8 8)), (.c (.int .u8 9))], none, 0, 0⟩,
    ⟨(.some 11), (.invoke "Seal"), [(.t 8), (.c (.int .i64 1)), (.c (.int .i64 2)), (.t 9), (.t 10)], none, 0, 0⟩,
    ⟨(.some 2), .mv, [(.t 11)], none, 0, 0⟩])
  (.seq
  (.ops [1, 2, 3, 4] [
    ⟨(.some 13), .mv, [(.t 1)], none, 0, 0⟩,
    ⟨(.some 14), (.mkSl 1 [(.int .u8 0)] [(0, 1)]), [(.c (.int .u8 7))], none, 0, 0⟩,
    ⟨(.some 15), .mv, [(.t 2)], none, 0, 0⟩,
    ⟨(.some 16), (.invoke "Open"), [(.t 13), (.c (.int .i64 1)), (.c (.int .i64 2)), (.t 14), (.t 15)], none, 0, 0⟩,
    ⟨(.some 12), .mv, [(.t 16)], none, 0, 0⟩,
    ⟨(.some 17), (.extract 0), [(.t 12)], none, 0, 0⟩,
    ⟨(.some 18), (.extract 1), [(.t 12)], none, 0, 0⟩,
    ⟨(.some 3), .mv, [(.t 17)], none, 0, 0⟩,
    ⟨(.some 4), .mv, [(.t 18)], none, 0, 0⟩])
  (.seq
  (.ops [1, 2, 3, 4, 6] [
    ⟨(.some 20), .mv, [(.t 1)], none, 0, 0⟩,
    ⟨(.some 21), (.mkSl 1 [(.int .u8 0)] [(0, 1)]), [(.c (.int .u8 7))], none, 0, 0⟩,
    ⟨(.some 22), .mv, [(.t 2)], none, 0, 0⟩,
    ⟨(.some 23), (.invoke "Open"), [(.t 20), (.c (.int .i64 1)), (.c (.int .i64 3)), (.t 21), (.t 22)], none, 0, 0⟩,
    ⟨(.some 19), .mv, [(.t 23)], none, 0, 0⟩,
    ⟨(.some 24), (.extract 0), [(.t 19)], none, 0, 0⟩,
    ⟨(.some 25), (.extract 1), [(.t 19)], none, 0, 0⟩,
    ⟨(.some 5), .mv, [(.t 24)], none, 0, 0⟩,
    ⟨(.some 6), .mv, [(.t 25)], none, 0, 0⟩])
  (.seq
  (.ops [0] [
    ⟨(.some 26), .mv, [(.t 2)], none, 0, 0⟩,
    ⟨(.some 27), .len, [(.t 26)], none, 0, 0⟩,
    ⟨(.some 28), (.eq false .int), [(.t 27), (.c (.int .i64 34))], none, 0, 0⟩,
    ⟨(.some 29), .mv, [(.t 28)], none, 0, 0⟩,
    ⟨(.some 30), .mv, [(.t 4)], (.some (29, true)), 0, 0⟩,
    ⟨(.some 31), .pick, [(.t 29), (.t 30), (.c (.bool false))], none, 0, 0⟩,
    ⟨(.some 32), .mv, [(.t 31)], none, 0, 0⟩,
    ⟨(.some 33), .mv, [(.t 6)], (.some (32, true)), 0, 0⟩,
    ⟨(.some 34), .not, [(.t 33)], (.some (32, true)), 0, 0⟩,
    ⟨(.some 35), .pick, [(.t 32), (.t 34), (.c (.bool false))], none, 0, 0⟩,
    ⟨(.some 36), .mv, [(.t 35)], none, 0, 0⟩,
    ⟨(.some 37), .mv, [(.t 3)], (.some (36, true)), 0, 0⟩,
    ⟨(.some 38), (.mkSl 2 [(.int .u8 0), (.int .u8 0)] [(0, 1), (1, 1)]), [(.c (.int .u8 8)), (.c (.int .u8 9))], (.some (36, true)), 0, 0⟩,
    ⟨(.some 39), (.call 18), [(.t 37), (.t 38)], (.some (36, true)), 0, 0⟩,
    ⟨(.some 40), .pick, [(.t 36), (.t 39), (.c (.bool false))], none, 0, 0⟩,
    ⟨(.some 41), .mv, [(.t 40)], none, 0, 0⟩,
    ⟨(.some 42), .mv, [(.t 1)], (.some (41, true)), 0, 0⟩,
    ⟨(.some 43), (.invoke "Sum"), [(.t 42), (.c .nils)], (.some (41, true)), 0, 0⟩,
    ⟨(.some 44), .mv, [(.t 1)], (.some (41, true)), 0, 0⟩,
    ⟨(.some 45), (.invoke "Sum"), [(.t 44), (.c .nils)], (.some (41, true)), 0, 0⟩,
    ⟨(.some 46), (.eqAgg false (List.replicate 32 .i)), [(.t 43), (.t 45)], (.some (41, true)), 0, 0⟩,
    ⟨(.some 47), .pick, [(.t 41), (.t 46), (.c (.bool false))], none, 0, 0⟩,
    ⟨(.some 48), .mv, [(.t 47)], none, 0, 0⟩,
    ⟨(.some 49), .mv, [(.t 1)], (.some (48, true)), 0, 0⟩,
    ⟨(.some 50), (.invoke "Sum"), [(.t 49), (.c .nils)], (.some (48, true)), 0, 0⟩,
    ⟨(.some 51), .mv, [(.t 1)], (.some (48, true)), 0, 0⟩,
    ⟨(.some 52), (.mkSl 1 [(.int .u8 0)] [(0, 1)]), [(.c (.int .u8 5))], (.some (48, true)), 0, 0⟩,
    ⟨(.some 53), (.invoke "Sum"), [(.t 51), (.t 52)], (.some (48, true)), 0, 0⟩,
    ⟨(.some 54), (.eqAgg true (List.replicate 32 .i)), [(.t 50), (.t 53)], (.some (48, true)), 0, 0⟩,
    ⟨(.some 55), .pick, [(.t 48), (.t 54), (.c (.bool false))], none, 0, 0⟩,
    ⟨(.some 0), .mv, [(.t 55)], none, 0, 0⟩])
  .ret))))))
def r10 : List ARes := [(.tmp 0)]
theorem ok10 : FnOk Try.prog 10 c10 r10 :=
  ⟨Try.f10, _, Try.func10, by kernel_rfl, rfl, by kernel_rfl, by kernel_rfl⟩
/-- rill/names.New -/
def c11 : ACode :=
  (.seq
  (.ops [] [
    ⟨(.some 0), .mv, [(.c .nilp)], none, 0, 0⟩])
  (.seq
  (.ops [0] [
    ⟨(.some 1), .mkMap, [], none, 0, 0⟩,
    ⟨(.some 2), .mkMap, [], none, 0, 0⟩,
    ⟨(.some 3), (.build [.mapn, .nils, .mapn] [(0, 1), (2, 1)]), [(.t 1), (.t 2)], none, 0, 0⟩,
    ⟨(.some 4), .box, [(.t 3)], none, 0, 0⟩,
    ⟨(.some 0), .mv, [(.t 4)], none, 0, 0⟩])
  .ret))
def r11 : List ARes := [(.tmp 0)]
theorem ok11 : FnOk Try.prog 11 c11 r11 :=
  ⟨Try.f11, _, Try.func11, by kernel_rfl, rfl, by kernel_rfl, by kernel_rfl⟩
/-- rill/rillref06.New -/
def c12 : ACode :=
  (.seq
  (.ops [] [
    ⟨(.some 0), .mv, [(.c .nilp)], none, 0, 0⟩])
  (.seq
  (.ops [0] [
    ⟨(.some 1), (.build [.nils, .nils] []), [], none, 0, 0⟩,
    ⟨(.some 2), .box, [(.t 1)], none, 0, 0⟩,
    ⟨(.some 0), .mv, [(.t 2)], none, 0, 0⟩])
  .ret))
def r12 : List ARes := [(.tmp 0)]
theorem ok12 : FnOk Try.prog 12 c12 r12 :=
  ⟨Try.f12, _, Try.func12, by kernel_rfl, rfl, by kernel_rfl, by kernel_rfl⟩
/-- rill/rilllaw06.turned -/
def c13 : ACode :=
  (.seq
  (.ops [0, 1] [
    ⟨(.some 4), .mv, [(.c .nils)], none, 0, 0⟩])
  (.seq
  (.ops [1, 5] [
    ⟨(.some 6), .mv, [(.t 0)], none, 0, 0⟩,
    ⟨(.some 7), (.call 30), [(.t 6)], none, 0, 0⟩,
    ⟨(.some 5), .mv, [(.t 7)], none, 0, 0⟩])
  (.seq
  (.seq
  (.ops [1, 5, 10] [
    ⟨(.some 8), .mv, [(.t 5)], none, 0, 0⟩,
    ⟨(.some 9), .len, [(.t 8)], none, 0, 0⟩,
    ⟨(.some 10), (.cmp .gtr), [(.t 9), (.c (.int .i64 0))], none, 0, 0⟩])
  (.cond (.t 10)
    (.ops [5] [
      ⟨(.some 11), .mv, [(.t 5)], none, 0, 0⟩,
      ⟨(.some 12), .mv, [(.t 5)], none, 0, 0⟩,
      ⟨(.some 13), .len, [(.t 12)], none, 0, 0⟩,
      ⟨(.some 14), (.arith .sub), [(.t 13), (.c (.int .i64 1))], none, 0, 0⟩,
      ⟨(.some 15), .mv, [(.t 5)], none, 0, 0⟩,
      ⟨(.some 16), .mv, [(.t 5)], none, 0, 0⟩,
      ⟨(.some 17), .len, [(.t 16)], none, 0, 0⟩,
      ⟨(.some 18), (.arith .sub), [(.t 17), (.c (.int .i64 1))], none, 0, 0⟩,
      ⟨(.some 19), (.idxAddr 1), [(.t 15), (.t 18)], none, 0, 0⟩,
      ⟨(.some 20), (.load false 1), [(.t 19)], none, 0, 0⟩,
      ⟨(.some 21), .mv, [(.t 1)], none, 0, 0⟩,
      ⟨(.some 22), (.arith .xor), [(.t 20), (.t 21)], none, 0, 0⟩,
      ⟨(.some 23), (.idxAddr 1), [(.t 11), (.t 14)], none, 0, 0⟩,
      ⟨none, (.store 1), [(.t 23), (.t 22)], none, 0, 0⟩])
    .skip))
  (.seq
  (.ops [4] [
    ⟨(.some 24), .mv, [(.t 5)], none, 0, 0⟩,
    ⟨(.some 4), .mv, [(.t 24)], none, 0, 0⟩])
  .ret))))
def r13 : List ARes := [(.tmp 4)]
theorem ok13 : FnOk Try.prog 13 c13 r13 :=
  ⟨Try.f13, _, Try.func13, by kernel_rfl, rfl, by kernel_rfl, by kernel_rfl⟩
/-- rill/rillkit.Pick -/
def c14 : ACode :=
  (.seq
  (.ops [0, 1] [
    ⟨(.some 4), .mv, [(.c (.int .i64 0))], none, 0, 0⟩])
  (.seq
  (.seq
  (.ops [0, 1, 6] [
    ⟨(.some 5), .mv, [(.t 1)], none, 0, 0⟩,
    ⟨(.some 6), (.cmp .lss), [(.t 5), (.c (.int .i64 1))], none, 0, 0⟩])
  (.cond (.t 6)
    (.seq
    (.ops [4] [
      ⟨(.some 4), .mv, [(.c (.int .i64 0))], none, 0, 0⟩])
    .ret)
    .skip))
  (.seq
  (.ops [0, 1] [
    ⟨(.some 7), .mv, [(.t 0)], none, 0, 0⟩,
    ⟨(.some 8), .mv, [(.t 1)], none, 0, 0⟩,
    ⟨(.some 9), (.arith .rem), [(.t 7), (.t 8)], none, 0, 0⟩,
    ⟨(.some 0), .mv, [(.t 9)], none, 0, 0⟩])
  (.seq
  (.seq
  (.ops [0, 1, 11] [
    ⟨(.some 10), .mv, [(.t 0)], none, 0, 0⟩,
    ⟨(.some 11), (.cmp .lss), [(.t 10), (.c (.int .i64 0))], none, 0, 0⟩])
  (.cond (.t 11)
    (.ops [0] [
      ⟨(.some 12), .mv, [(.t 0)], none, 0, 0⟩,
      ⟨(.some 13), .mv, [(.t 1)], none, 0, 0⟩,
      ⟨(.some 14), (.arith .add), [(.t 12), (.t 13)], none, 0, 0⟩,
      ⟨(.some 0), .mv, [(.t 14)], none, 0, 0⟩])
    .skip))
  (.seq
  (.ops [4] [
    ⟨(.some 15), .mv, [(.t 0)], none, 0, 0⟩,
    ⟨(.some 4), .mv, [(.t 15)], none, 0, 0⟩])
  .ret)))))
def r14 : List ARes := [(.tmp 4)]
theorem ok14 : FnOk Try.prog 14 c14 r14 :=
  ⟨Try.f14, _, Try.func14, by kernel_rfl, rfl, by kernel_rfl, by kernel_rfl⟩
/-- rill/rillkit.LentBytes -/
def c15 : ACode :=
  (.seq
  (.ops [0] [
    ⟨(.some 2), .mv, [(.c .nils)], none, 0, 0⟩])
  (.seq
  (.ops [0, 3] [
    ⟨(.some 5), .mv, [(.t 0)], none, 0, 0⟩,
    ⟨(.some 6), .len, [(.t 5)], none, 0, 0⟩,
    ⟨(.some 7), (.arith .add), [(.t 6), (.c (.int .i64 5))], none, 0, 0⟩,
    ⟨(.some 8), (.mkSlice [(.int .u8 0)] 1), [(.t 7), (.t 7)], none, 0, 0⟩,
    ⟨(.some 3), .mv, [(.t 8)], none, 0, 0⟩])
  (.seq
  (.seq
  (.ops [0, 3, 4] [
    ⟨(.some 4), .mv, [(.c (.int .i64 0))], none, 0, 0⟩])
  (.block 0
    (.loop [0, 3, 4]
      (.seq
      (.seq
      (.ops [0, 3, 4, 12] [
        ⟨(.some 9), .mv, [(.t 4)], none, 0, 0⟩,
        ⟨(.some 10), .mv, [(.t 3)], none, 0, 0⟩,
        ⟨(.some 11), .len, [(.t 10)], none, 0, 0⟩,
        ⟨(.some 12), (.cmp .lss), [(.t 9), (.t 11)], none, 0, 0⟩])
      (.cond (.t 12)
        .skip
        (.exit 0)))
      (.seq
      (.block 1
        (.seq
        (.ops [0, 3, 4] [
          ⟨(.some 15), .mv, [(.t 3)], none, 0, 0⟩,
          ⟨(.some 16), .mv, [(.t 4)], none, 0, 0⟩,
          ⟨(.some 17), (.idxAddr 1), [(.t 15), (.t 16)], none, 0, 0⟩,
          ⟨none, (.store 1), [(.t 17), (.c (.int .u8 165))], none, 0, 0⟩])
        (.seq
        (.ops [0, 3, 4, 21] [
          ⟨(.some 18), .mv, [(.t 4)], none, 0, 0⟩,
          ⟨(.some 19), .mv, [(.t 0)], none, 0, 0⟩,
          ⟨(.some 20), .len, [(.t 19)], none, 0, 0⟩,
          ⟨(.some 21), (.cmp .lss), [(.t 18), (.t 20)], none, 0, 0⟩])
        (.cond (.t 21)
          (.ops [0, 3, 4] [
            ⟨(.some 22), .mv, [(.t 3)], none, 0, 0⟩,
            ⟨(.some 23), .mv, [(.t 4)], none, 0, 0⟩,
            ⟨(.some 24), .mv, [(.t 0)], none, 0, 0⟩,
            ⟨(.some 25), .mv, [(.t 4)], none, 0, 0⟩,
            ⟨(.some 26), (.idxAddr 1), [(.t 24), (.t 25)], none, 0, 0⟩,
            ⟨(.some 27), (.load false 1), [(.t 26)], none, 0, 0⟩,
            ⟨(.some 28), (.idxAddr 1), [(.t 22), (.t 23)], none, 0, 0⟩,
            ⟨none, (.store 1), [(.t 28), (.t 27)], none, 0, 0⟩])
          .skip))))
      (.ops [0, 3, 4] [
        ⟨(.some 13), .mv, [(.t 4)], none, 0, 0⟩,
        ⟨(.some 14), (.arith .add), [(.t 13), (.c (.int .i64 1))], none, 0, 0⟩,
        ⟨(.some 4), .mv, [(.t 14)], none, 0, 0⟩]))))))
  (.seq
  (.ops [2] [
    ⟨(.some 29), .mv, [(.t 3)], none, 0, 0⟩,
    ⟨(.some 2), .mv, [(.t 29)], none, 0, 0⟩])
  .ret))))
def r15 : List ARes := [(.tmp 2)]
theorem ok15 : FnOk Try.prog 15 c15 r15 :=
  ⟨Try.f15, _, Try.func15, by kernel_rfl, rfl, by kernel_rfl, by kernel_rfl⟩
/-- (*rill/names.Names).Seal -/
def c16 : ACode :=
  (.seq
  (.ops [0, 1, 2, 3, 4] [
    ⟨(.some 10), .mv, [(.c .nils)], none, 0, 0⟩])
  (.seq
  (.seq
  (.ops [0, 1, 2, 3, 4, 21] [
    ⟨(.some 14), .mv, [(.t 1)], none, 0, 0⟩,
    ⟨(.some 15), (.call 31), [(.t 14)], none, 0, 0⟩,
    ⟨(.some 16), .not, [(.t 15)], none, 0, 0⟩,
    ⟨(.some 17), .mv, [(.t 16)], none, 0, 0⟩,
    ⟨(.some 18), .mv, [(.t 2)], (.some (17, false)), 0, 0⟩,
    ⟨(.some 19), (.call 31), [(.t 18)], (.some (17, false)), 0, 0⟩,
    ⟨(.some 20), .not, [(.t 19)], (.some (17, false)), 0, 0⟩,
    ⟨(.some 21), .pick, [(.t 17), (.c (.bool true)), (.t 20)], none, 0, 0⟩])
  (.cond (.t 21)
    (.seq
    (.ops [10] [
      ⟨(.some 10), .mv, [(.c .nils)], none, 0, 0⟩])
    .ret)
    .skip))
  (.seq
  (.ops [0, 4, 11] [
    ⟨(.some 22), .mv, [(.t 1)], none, 0, 0⟩,
    ⟨(.some 23), .mv, [(.t 2)], none, 0, 0⟩,
    ⟨(.some 24), .mv, [(.t 3)], none, 0, 0⟩,
    ⟨(.some 25), .b2s, [(.t 24)], none, 0, 0⟩,
    ⟨(.some 26), .mv, [(.t 4)], none, 0, 0⟩,
    ⟨(.some 27), .b2s, [(.t 26)], none, 0, 0⟩,
    ⟨(.some 28), (.build [(.int .i64 0), (.int .i64 0), (.str ⟨#[]⟩), (.str ⟨#[]⟩)] [(0, 1), (1, 1), (2, 1), (3, 1)]), [(.t 22), (.t 23), (.t 25), (.t 27)], none, 0, 0⟩,
    ⟨(.some 11), (.alloc [(.int .i64 0), (.int .i64 0), (.str ⟨#[]⟩), (.str ⟨#[]⟩)]), [], none, 0, 0⟩,
    ⟨none, (.store 4), [(.t 11), (.t 28)], none, 0, 0⟩])
  (.seq
  (.drawn [0, 4, 11, 12, 13] [
    ⟨(.some 30), .mv, [(.t 0)], none, 0, 0⟩,
    ⟨(.some 31), .nilCheck, [(.t 30)], none, 0, 0⟩,
    ⟨(.some 32), (.fieldAddr 0), [(.t 31)], none, 0, 0⟩,
    ⟨(.some 33), (.load false 1), [(.t 32)], none, 0, 0⟩,
    ⟨(.some 34), (.load true 4), [(.t 11)], none, 0, 0⟩,
    ⟨(.some 35), (.lookup (.agg [.i, .i, .s, .s]) (.int .i64 0) true), [(.t 33), (.t 34)], none, 0, 0⟩,
    ⟨(.some 29), .mv, [(.t 35)], none, 0, 0⟩,
    ⟨(.some 36), (.extract 0), [(.t 29)], none, 0, 0⟩,
    ⟨(.some 37), (.extract 1), [(.t 29)], none, 0, 0⟩,
    ⟨(.some 12), .mv, [(.t 36)], none, 0, 0⟩,
    ⟨(.some 13), .mv, [(.t 37)], none, 0, 0⟩])
  (.seq
  (.seq
  (.ops [0, 4, 11, 12, 39] [
    ⟨(.some 38), .mv, [(.t 13)], none, 0, 0⟩,
    ⟨(.some 39), .not, [(.t 38)], none, 0, 0⟩])
  (.cond (.t 39)
    (.seq
    (.drawn [0, 4, 11] [
      ⟨(.some 40), .mv, [(.t 0)], none, 0, 1⟩,
      ⟨(.some 41), .mv, [(.t 0)], none, 0, 0⟩,
      ⟨(.some 42), .nilCheck, [(.t 41)], none, 0, 0⟩,
      ⟨(.some 43), (.fieldAddr 1), [(.t 42)], none, 0, 0⟩,
      ⟨(.some 44), (.load false 1), [(.t 43)], none, 0, 0⟩,
      ⟨(.some 45), (.load true 4), [(.t 11)], none, 0, 0⟩,
      ⟨(.some 46), (.mkSl 1 [(.int .i64 0), (.int .i64 0), (.str ⟨#[]⟩), (.str ⟨#[]⟩)] [(0, 4)]), [(.t 45)], none, 0, 0⟩,
      ⟨(.some 47), (.append 4 48), [(.t 44), (.t 46)], none, 0, 1⟩,
      ⟨(.some 48), .nilCheck, [(.t 40)], none, 1, 1⟩,
      ⟨(.some 49), (.fieldAddr 1), [(.t 48)], none, 1, 1⟩,
      ⟨none, (.store 1), [(.t 49), (.t 47)], none, 1, 2⟩])
    (.seq
    (.ops [0, 4, 11, 12] [
      ⟨(.some 50), .mv, [(.t 0)], none, 0, 0⟩,
      ⟨(.some 51), .nilCheck, [(.t 50)], none, 0, 0⟩,
      ⟨(.some 52), (.fieldAddr 1), [(.t 51)], none, 0, 0⟩,
      ⟨(.some 53), (.load false 1), [(.t 52)], none, 0, 0⟩,
      ⟨(.some 54), .len, [(.t 53)], none, 0, 0⟩,
      ⟨(.some 12), .mv, [(.t 54)], none, 0, 0⟩])
    (.drawn [4, 12] [
      ⟨(.some 55), .mv, [(.t 0)], none, 0, 0⟩,
      ⟨(.some 56), .nilCheck, [(.t 55)], none, 0, 0⟩,
      ⟨(.some 57), (.fieldAddr 0), [(.t 56)], none, 0, 0⟩,
      ⟨(.some 58), (.load false 1), [(.t 57)], none, 0, 0⟩,
      ⟨(.some 59), (.load true 4), [(.t 11)], none, 0, 0⟩,
      ⟨(.some 60), .mv, [(.t 12)], none, 0, 0⟩,
      ⟨none, (.mapSet (.agg [.i, .i, .s, .s])), [(.t 58), (.t 59), (.t 60)], none, 0, 1⟩])))
    .skip))
  (.seq
  (.drawn [10] [
    ⟨(.some 61), .mv, [(.t 4)], none, 0, 1⟩,
    ⟨(.some 62), (.mkSlice [(.int .u8 0)] 1), [(.c (.int .i64 24)), (.c (.int .i64 24))], none, 0, 1⟩,
    ⟨(.some 63), .mv, [(.t 12)], none, 0, 0⟩,
    ⟨(.some 64), (.call 33), [(.t 63)], none, 0, 1⟩,
    ⟨(.some 65), (.mkSl 3 [.nils, .nils, .nils] [(0, 1), (1, 1), (2, 1)]), [(.t 61), (.t 62), (.t 64)], none, 1, 1⟩,
    ⟨(.some 66), (.call 32), [(.t 65)], none, 1, 2⟩,
    ⟨(.some 10), .mv, [(.t 66)], none, 2, 2⟩])
  .ret))))))
def r16 : List ARes := [(.tmp 10)]
theorem ok16 : FnOk Try.prog 16 c16 r16 :=
  ⟨Try.f16, _, Try.func16, by kernel_rfl, rfl, by kernel_rfl, by kernel_rfl⟩
/-- (*rill/rillref06.Names).Seal -/
def c17 : ACode :=
  (.seq
  (.ops [0, 1, 2, 3, 4] [
    ⟨(.some 10), .mv, [(.c .nils)], none, 0, 0⟩])
  (.seq
  (.seq
  (.ops [0, 1, 2, 3, 4, 29] [
    ⟨(.some 16), .mv, [(.t 1)], none, 0, 0⟩,
    ⟨(.some 17), (.cmp .lss), [(.t 16), (.c (.int .i64 0))], none, 0, 0⟩,
    ⟨(.some 18), .mv, [(.t 17)], none, 0, 0⟩,
    ⟨(.some 19), .mv, [(.t 2)], (.some (18, false)), 0, 0⟩,
    ⟨(.some 20), (.cmp .lss), [(.t 19), (.c (.int .i64 0))], (.some (18, false)), 0, 0⟩,
    ⟨(.some 21), .pick, [(.t 18), (.c (.bool true)), (.t 20)], none, 0, 0⟩,
    ⟨(.some 22), .mv, [(.t 21)], none, 0, 0⟩,
    ⟨(.some 23), .mv, [(.t 1)], (.some (22, false)), 0, 0⟩,
    ⟨(.some 24), (.cmp .gtr), [(.t 23), (.c (.int .i64 1099511627776))], (.some (22, false)), 0, 0⟩,
    ⟨(.some 25), .pick, [(.t 22), (.c (.bool true)), (.t 24)], none, 0, 0⟩,
    ⟨(.some 26), .mv, [(.t 25)], none, 0, 0⟩,
    ⟨(.some 27), .mv, [(.t 2)], (.some (26, false)), 0, 0⟩,
    ⟨(.some 28), (.cmp .gtr), [(.t 27), (.c (.int .i64 1099511627776))], (.some (26, false)), 0, 0⟩,
    ⟨(.some 29), .pick, [(.t 26), (.c (.bool true)), (.t 28)], none, 0, 0⟩])
  (.cond (.t 29)
    (.seq
    (.ops [10] [
      ⟨(.some 10), .mv, [(.c .nils)], none, 0, 0⟩])
    .ret)
    .skip))
  (.seq
  (.ops [0, 4, 11] [
    ⟨(.some 30), .mv, [(.t 1)], none, 0, 0⟩,
    ⟨(.some 31), .mv, [(.t 2)], none, 0, 0⟩,
    ⟨(.some 32), .mv, [(.t 3)], none, 0, 0⟩,
    ⟨(.some 33), (.call 30), [(.t 32)], none, 0, 0⟩,
    ⟨(.some 34), .mv, [(.t 4)], none, 0, 0⟩,
    ⟨(.some 35), (.call 30), [(.t 34)], none, 0, 0⟩,
    ⟨(.some 36), (.build [(.int .i64 0), (.int .i64 0), .nils, .nils] [(0, 1), (1, 1), (2, 1), (3, 1)]), [(.t 30), (.t 31), (.t 33), (.t 35)], none, 0, 0⟩,
    ⟨(.some 11), (.alloc [(.int .i64 0), (.int .i64 0), .nils, .nils]), [], none, 0, 0⟩,
    ⟨none, (.store 4), [(.t 11), (.t 36)], none, 0, 0⟩])
  (.seq
  (.ops [0, 4, 11, 12] [
    ⟨(.some 37), .mv, [(.t 0)], none, 0, 0⟩,
    ⟨(.some 38), (.load true 4), [(.t 11)], none, 0, 0⟩,
    ⟨(.some 39), (.call 34), [(.t 37), (.t 38)], none, 0, 0⟩,
    ⟨(.some 12), .mv, [(.t 39)], none, 0, 0⟩])
  (.seq
  (.seq
  (.ops [0, 4, 11, 12, 41] [
    ⟨(.some 40), .mv, [(.t 12)], none, 0, 0⟩,
    ⟨(.some 41), (.eq false .int), [(.t 40), (.c (.int .i64 0))], none, 0, 0⟩])
  (.cond (.t 41)
    (.seq
    (.drawn [0, 4] [
      ⟨(.some 42), .mv, [(.t 0)], none, 0, 1⟩,
      ⟨(.some 43), .mv, [(.t 0)], none, 0, 0⟩,
      ⟨(.some 44), .nilCheck, [(.t 43)], none, 0, 0⟩,
      ⟨(.some 45), (.fieldAddr 0), [(.t 44)], none, 0, 0⟩,
      ⟨(.some 46), (.load false 1), [(.t 45)], none, 0, 0⟩,
      ⟨(.some 47), (.load true 4), [(.t 11)], none, 0, 0⟩,
      ⟨(.some 48), (.mkSl 1 [(.int .i64 0), (.int .i64 0), .nils, .nils] [(0, 4)]), [(.t 47)], none, 0, 0⟩,
      ⟨(.some 49), (.append 4 64), [(.t 46), (.t 48)], none, 0, 1⟩,
      ⟨(.some 50), .nilCheck, [(.t 42)], none, 1, 1⟩,
      ⟨(.some 51), (.fieldAddr 0), [(.t 50)], none, 1, 1⟩,
      ⟨none, (.store 1), [(.t 51), (.t 49)], none, 1, 2⟩])
    (.ops [4, 12] [
      ⟨(.some 52), .mv, [(.t 0)], none, 0, 0⟩,
      ⟨(.some 53), .nilCheck, [(.t 52)], none, 0, 0⟩,
      ⟨(.some 54), (.fieldAddr 0), [(.t 53)], none, 0, 0⟩,
      ⟨(.some 55), (.load false 1), [(.t 54)], none, 0, 0⟩,
      ⟨(.some 56), .len, [(.t 55)], none, 0, 0⟩,
      ⟨(.some 12), .mv, [(.t 56)], none, 0, 0⟩]))
    .skip))
  (.seq
  (.ops [12, 13] [
    ⟨(.some 57), .mv, [(.t 4)], none, 0, 0⟩,
    ⟨(.some 58), (.call 30), [(.t 57)], none, 0, 0⟩,
    ⟨(.some 13), .mv, [(.t 58)], none, 0, 0⟩])
  (.seq
  (.ops [13, 14] [
    ⟨(.some 59), .mv, [(.t 12)], none, 0, 0⟩,
    ⟨(.some 60), (.call 35), [(.t 59)], none, 0, 0⟩,
    ⟨(.some 14), .mv, [(.t 60)], none, 0, 0⟩])
  (.seq
  (.seq
  (.ops [13, 14, 15] [
    ⟨(.some 15), .mv, [(.c (.int .i64 0))], none, 0, 0⟩])
  (.block 0
    (.loop [13, 14, 15]
      (.seq
      (.seq
      (.ops [13, 14, 15, 64] [
        ⟨(.some 61), .mv, [(.t 15)], none, 0, 0⟩,
        ⟨(.some 62), .mv, [(.t 14)], none, 0, 0⟩,
        ⟨(.some 63), .len, [(.t 62)], none, 0, 0⟩,
        ⟨(.some 64), (.cmp .lss), [(.t 61), (.t 63)], none, 0, 0⟩])
      (.cond (.t 64)
        .skip
        (.exit 0)))
      (.seq
      (.block 1
        (.ops [13, 14, 15] [
          ⟨(.some 67), .mv, [(.t 13)], none, 0, 0⟩,
          ⟨(.some 68), .mv, [(.t 14)], none, 0, 0⟩,
          ⟨(.some 69), .mv, [(.t 15)], none, 0, 0⟩,
          ⟨(.some 70), (.idxAddr 1), [(.t 68), (.t 69)], none, 0, 0⟩,
          ⟨(.some 71), (.load false 1), [(.t 70)], none, 0, 0⟩,
          ⟨(.some 72), (.mkSl 1 [(.int .u8 0)] [(0, 1)]), [(.t 71)], none, 0, 0⟩,
          ⟨(.some 73), (.append 1 1), [(.t 67), (.t 72)], none, 0, 0⟩,
          ⟨(.some 13), .mv, [(.t 73)], none, 0, 0⟩]))
      (.ops [13, 14, 15] [
        ⟨(.some 65), .mv, [(.t 15)], none, 0, 0⟩,
        ⟨(.some 66), (.arith .add), [(.t 65), (.c (.int .i64 1))], none, 0, 0⟩,
        ⟨(.some 15), .mv, [(.t 66)], none, 0, 0⟩]))))))
  (.seq
  (.ops [10] [
    ⟨(.some 74), .mv, [(.t 13)], none, 0, 0⟩,
    ⟨(.some 10), .mv, [(.t 74)], none, 0, 0⟩])
  .ret)))))))))
def r17 : List ARes := [(.tmp 10)]
theorem ok17 : FnOk Try.prog 17 c17 r17 :=
  ⟨Try.f17, _, Try.func17, by kernel_rfl, rfl, by kernel_rfl, by kernel_rfl⟩
/-- rill/rillkit.SameBytes -/
def c18 : ACode :=
  (.seq
  (.ops [0, 1] [
    ⟨(.some 4), .mv, [(.c (.bool false))], none, 0, 0⟩])
  (.seq
  (.seq
  (.ops [0, 1, 10] [
    ⟨(.some 6), .mv, [(.t 0)], none, 0, 0⟩,
    ⟨(.some 7), .len, [(.t 6)], none, 0, 0⟩,
    ⟨(.some 8), .mv, [(.t 1)], none, 0, 0⟩,
    ⟨(.some 9), .len, [(.t 8)], none, 0, 0⟩,
    ⟨(.some 10), (.eq true .int), [(.t 7), (.t 9)], none, 0, 0⟩])
  (.cond (.t 10)
    (.seq
    (.ops [4] [
      ⟨(.some 4), .mv, [(.c (.bool false))], none, 0, 0⟩])
    .ret)
    .skip))
  (.seq
  (.seq
  (.ops [0, 1, 5] [
    ⟨(.some 5), .mv, [(.c (.int .i64 0))], none, 0, 0⟩])
  (.block 0
    (.loop [0, 1, 5]
      (.seq
      (.seq
      (.ops [0, 1, 5, 14] [
        ⟨(.some 11), .mv, [(.t 5)], none, 0, 0⟩,
        ⟨(.some 12), .mv, [(.t 0)], none, 0, 0⟩,
        ⟨(.some 13), .len, [(.t 12)], none, 0, 0⟩,
        ⟨(.some 14), (.cmp .lss), [(.t 11), (.t 13)], none, 0, 0⟩])
      (.cond (.t 14)
        .skip
        (.exit 0)))
      (.seq
      (.block 1
        (.seq
        (.drawn [0, 1, 5, 25] [
          ⟨(.some 17), .mv, [(.t 0)], none, 0, 0⟩,
          ⟨(.some 18), .mv, [(.t 5)], none, 0, 0⟩,
          ⟨(.some 19), (.idxAddr 1), [(.t 17), (.t 18)], none, 0, 0⟩,
          ⟨(.some 20), (.load false 1), [(.t 19)], none, 0, 0⟩,
          ⟨(.some 21), .mv, [(.t 1)], none, 0, 0⟩,
          ⟨(.some 22), .mv, [(.t 5)], none, 0, 0⟩,
          ⟨(.some 23), (.idxAddr 1), [(.t 21), (.t 22)], none, 0, 0⟩,
          ⟨(.some 24), (.load false 1), [(.t 23)], none, 0, 0⟩,
          ⟨(.some 25), (.eq true .int), [(.t 20), (.t 24)], none, 0, 0⟩])
        (.cond (.t 25)
          (.seq
          (.ops [4] [
            ⟨(.some 4), .mv, [(.c (.bool false))], none, 0, 0⟩])
          .ret)
          .skip)))
      (.ops [0, 1, 5] [
        ⟨(.some 15), .mv, [(.t 5)], none, 0, 0⟩,
        ⟨(.some 16), (.arith .add), [(.t 15), (.c (.int .i64 1))], none, 0, 0⟩,
        ⟨(.some 5), .mv, [(.t 16)], none, 0, 0⟩]))))))
  (.seq
  (.ops [4] [
    ⟨(.some 4), .mv, [(.c (.bool true))], none, 0, 0⟩])
  .ret))))
def r18 : List ARes := [(.tmp 4)]
theorem ok18 : FnOk Try.prog 18 c18 r18 :=
  ⟨Try.f18, _, Try.func18, by kernel_rfl, rfl, by kernel_rfl, by kernel_rfl⟩
/-- rill/rillkit.SpoilBytes -/
def c19 : ACode :=
  (.seq
  (.ops [0, 2] [
    ⟨(.some 2), .mv, [(.c (.int .i64 0))], none, 0, 0⟩])
  (.block 0
    (.loop [0, 2]
      (.seq
      (.seq
      (.ops [0, 2, 6] [
        ⟨(.some 3), .mv, [(.t 2)], none, 0, 0⟩,
        ⟨(.some 4), .mv, [(.t 0)], none, 0, 0⟩,
        ⟨(.some 5), .len, [(.t 4)], none, 0, 0⟩,
        ⟨(.some 6), (.cmp .lss), [(.t 3), (.t 5)], none, 0, 0⟩])
      (.cond (.t 6)
        .skip
        (.exit 0)))
      (.seq
      (.block 1
        (.ops [0, 2] [
          ⟨(.some 9), .mv, [(.t 0)], none, 0, 0⟩,
          ⟨(.some 10), .mv, [(.t 2)], none, 0, 0⟩,
          ⟨(.some 11), .mv, [(.t 0)], none, 0, 0⟩,
          ⟨(.some 12), .mv, [(.t 2)], none, 0, 0⟩,
          ⟨(.some 13), (.idxAddr 1), [(.t 11), (.t 12)], none, 0, 0⟩,
          ⟨(.some 14), (.load false 1), [(.t 13)], none, 0, 0⟩,
          ⟨(.some 15), (.arith .xor), [(.t 14), (.c (.int .u8 90))], none, 0, 0⟩,
          ⟨(.some 16), (.idxAddr 1), [(.t 9), (.t 10)], none, 0, 0⟩,
          ⟨none, (.store 1), [(.t 16), (.t 15)], none, 0, 0⟩]))
      (.ops [0, 2] [
        ⟨(.some 7), .mv, [(.t 2)], none, 0, 0⟩,
        ⟨(.some 8), (.arith .add), [(.t 7), (.c (.int .i64 1))], none, 0, 0⟩,
        ⟨(.some 2), .mv, [(.t 8)], none, 0, 0⟩]))))))
def r19 : List ARes := []
theorem ok19 : FnOk Try.prog 19 c19 r19 :=
  ⟨Try.f19, _, Try.func19, by kernel_rfl, rfl, by kernel_rfl, by kernel_rfl⟩
/-- (*rill/names.Names).Open -/
def c20 : ACode :=
  (.seq
  (.ops [0, 1, 2, 3, 4] [
    ⟨(.some 10), .mv, [(.c .nils)], none, 0, 0⟩,
    ⟨(.some 11), .mv, [(.c (.bool false))], none, 0, 0⟩])
  (.seq
  (.seq
  (.ops [0, 1, 2, 3, 4, 18] [
    ⟨(.some 16), .mv, [(.t 4)], none, 0, 0⟩,
    ⟨(.some 17), .len, [(.t 16)], none, 0, 0⟩,
    ⟨(.some 18), (.cmp .lss), [(.t 17), (.c (.int .i64 32))], none, 0, 0⟩])
  (.cond (.t 18)
    (.seq
    (.ops [10, 11] [
      ⟨(.some 10), .mv, [(.c .nils)], none, 0, 0⟩,
      ⟨(.some 11), .mv, [(.c (.bool false))], none, 0, 0⟩])
    .ret)
    .skip))
  (.seq
  (.drawn [0, 1, 2, 3, 12, 13] [
    ⟨(.some 19), .mv, [(.t 4)], none, 0, 0⟩,
    ⟨(.some 20), .mv, [(.t 4)], none, 0, 0⟩,
    ⟨(.some 21), .len, [(.t 20)], none, 0, 0⟩,
    ⟨(.some 22), (.arith .sub), [(.t 21), (.c (.int .i64 32))], none, 0, 0⟩,
    ⟨(.some 23), (.slice 1 false true false), [(.t 19), (.t 22)], none, 0, 0⟩,
    ⟨(.some 24), .mv, [(.t 4)], none, 0, 0⟩,
    ⟨(.some 25), .mv, [(.t 4)], none, 0, 0⟩,
    ⟨(.some 26), .len, [(.t 25)], none, 0, 0⟩,
    ⟨(.some 27), (.arith .sub), [(.t 26), (.c (.int .i64 32))], none, 0, 0⟩,
    ⟨(.some 28), (.slice 1 true false false), [(.t 24), (.t 27)], none, 0, 0⟩,
    ⟨(.some 12), .mv, [(.t 23)], none, 0, 0⟩,
    ⟨(.some 13), .mv, [(.t 28)], none, 0, 0⟩])
  (.seq
  (.drawn [12, 13, 14, 15] [
    ⟨(.some 30), .mv, [(.t 0)], none, 0, 0⟩,
    ⟨(.some 31), .nilCheck, [(.t 30)], none, 0, 0⟩,
    ⟨(.some 32), (.fieldAddr 0), [(.t 31)], none, 0, 0⟩,
    ⟨(.some 33), (.load false 1), [(.t 32)], none, 0, 0⟩,
    ⟨(.some 34), .mv, [(.t 1)], none, 0, 0⟩,
    ⟨(.some 35), .mv, [(.t 2)], none, 0, 0⟩,
    ⟨(.some 36), .mv, [(.t 3)], none, 0, 0⟩,
    ⟨(.some 37), .b2s, [(.t 36)], none, 0, 0⟩,
    ⟨(.some 38), .mv, [(.t 12)], none, 0, 0⟩,
    ⟨(.some 39), .b2s, [(.t 38)], none, 0, 0⟩,
    ⟨(.some 40), (.build [(.int .i64 0), (.int .i64 0), (.str ⟨#[]⟩), (.str ⟨#[]⟩)] [(0, 1), (1, 1), (2, 1), (3, 1)]), [(.t 34), (.t 35), (.t 37), (.t 39)], none, 0, 0⟩,
    ⟨(.some 41), (.lookup (.agg [.i, .i, .s, .s]) (.int .i64 0) true), [(.t 33), (.t 40)], none, 0, 0⟩,
    ⟨(.some 29), .mv, [(.t 41)], none, 0, 0⟩,
    ⟨(.some 42), (.extract 0), [(.t 29)], none, 0, 0⟩,
    ⟨(.some 43), (.extract 1), [(.t 29)], none, 0, 0⟩,
    ⟨(.some 14), .mv, [(.t 42)], none, 0, 0⟩,
    ⟨(.some 15), .mv, [(.t 43)], none, 0, 0⟩])
  (.seq
  (.seq
  (.drawn [12, 55] [
    ⟨(.some 44), .mv, [(.t 15)], none, 0, 0⟩,
    ⟨(.some 45), .not, [(.t 44)], none, 0, 0⟩,
    ⟨(.some 46), .mv, [(.t 45)], none, 0, 0⟩,
    ⟨(.some 47), .mv, [(.t 13)], (.some (46, false)), 0, 2⟩,
    ⟨(.some 48), (.mkSlice [(.int .u8 0)] 1), [(.c (.int .i64 24)), (.c (.int .i64 24))], (.some (46, false)), 0, 1⟩,
    ⟨(.some 49), .mv, [(.t 14)], (.some (46, false)), 0, 0⟩,
    ⟨(.some 50), (.call 33), [(.t 49)], (.some (46, false)), 0, 1⟩,
    ⟨(.some 51), (.mkSl 2 [.nils, .nils] [(0, 1), (1, 1)]), [(.t 48), (.t 50)], (.some (46, false)), 1, 1⟩,
    ⟨(.some 52), (.call 32), [(.t 51)], (.some (46, false)), 1, 2⟩,
    ⟨(.some 53), (.call 36), [(.t 47), (.t 52)], (.some (46, false)), 2, 3⟩,
    ⟨(.some 54), .not, [(.t 53)], (.some (46, false)), 3, 3⟩,
    ⟨(.some 55), .pick, [(.t 46), (.c (.bool true)), (.t 54)], none, 3, 3⟩])
  (.cond (.t 55)
    (.seq
    (.ops [10, 11] [
      ⟨(.some 10), .mv, [(.c .nils)], none, 0, 0⟩,
      ⟨(.some 11), .mv, [(.c (.bool false))], none, 0, 0⟩])
    .ret)
    .skip))
  (.seq
  (.ops [10, 11] [
    ⟨(.some 56), .mv, [(.t 12)], none, 0, 0⟩,
    ⟨(.some 57), (.call 37), [(.t 56)], none, 0, 0⟩,
    ⟨(.some 10), .mv, [(.t 57)], none, 0, 0⟩,
    ⟨(.some 11), .mv, [(.c (.bool true))], none, 0, 0⟩])
  .ret))))))
def r20 : List ARes := [(.tmp 10), (.tmp 11)]
theorem ok20 : FnOk Try.prog 20 c20 r20 :=
  ⟨Try.f20, _, Try.func20, by kernel_rfl, rfl, by kernel_rfl, by kernel_rfl⟩
/-- (*rill/rillref06.Names).Open -/
def c21 : ACode :=
  (.seq
  (.ops [0, 1, 2, 3, 4] [
    ⟨(.some 10), .mv, [(.c .nils)], none, 0, 0⟩,
    ⟨(.some 11), .mv, [(.c (.bool false))], none, 0, 0⟩])
  (.seq
  (.ops [0, 1, 2, 3, 4, 12] [
    ⟨(.some 15), .mv, [(.t 4)], none, 0, 0⟩,
    ⟨(.some 16), .len, [(.t 15)], none, 0, 0⟩,
    ⟨(.some 17), (.arith .sub), [(.t 16), (.c (.int .i64 32))], none, 0, 0⟩,
    ⟨(.some 12), .mv, [(.t 17)], none, 0, 0⟩])
  (.seq
  (.seq
  (.ops [0, 1, 2, 3, 4, 12, 19] [
    ⟨(.some 18), .mv, [(.t 12)], none, 0, 0⟩,
    ⟨(.some 19), (.cmp .lss), [(.t 18), (.c (.int .i64 0))], none, 0, 0⟩])
  (.cond (.t 19)
    (.seq
    (.ops [10, 11] [
      ⟨(.some 10), .mv, [(.c .nils)], none, 0, 0⟩,
      ⟨(.some 11), .mv, [(.c (.bool false))], none, 0, 0⟩])
    .ret)
    .skip))
  (.seq
  (.seq
  (.ops [0, 1, 2, 3, 4, 12, 13] [
    ⟨(.some 13), .mv, [(.c (.int .i64 1))], none, 0, 0⟩])
  (.block 0
    (.loop [0, 1, 2, 3, 4, 12, 13]
      (.seq
      (.seq
      (.ops [0, 1, 2, 3, 4, 12, 13, 26] [
        ⟨(.some 20), .mv, [(.t 13)], none, 0, 0⟩,
        ⟨(.some 21), .mv, [(.t 0)], none, 0, 0⟩,
        ⟨(.some 22), .nilCheck, [(.t 21)], none, 0, 0⟩,
        ⟨(.some 23), (.fieldAddr 0), [(.t 22)], none, 0, 0⟩,
        ⟨(.some 24), (.load false 1), [(.t 23)], none, 0, 0⟩,
        ⟨(.some 25), .len, [(.t 24)], none, 0, 0⟩,
        ⟨(.some 26), (.cmp .leq), [(.t 20), (.t 25)], none, 0, 0⟩])
      (.cond (.t 26)
        .skip
        (.exit 0)))
      (.seq
      (.block 1
        (.seq
        (.ops [0, 1, 2, 3, 4, 12, 13, 14] [
          ⟨(.some 29), .mv, [(.t 0)], none, 0, 0⟩,
          ⟨(.some 30), .nilCheck, [(.t 29)], none, 0, 0⟩,
          ⟨(.some 31), (.fieldAddr 0), [(.t 30)], none, 0, 0⟩,
          ⟨(.some 32), (.load false 1), [(.t 31)], none, 0, 0⟩,
          ⟨(.some 33), .mv, [(.t 13)], none, 0, 0⟩,
          ⟨(.some 34), (.arith .sub), [(.t 33), (.c (.int .i64 1))], none, 0, 0⟩,
          ⟨(.some 35), (.idxAddr 4), [(.t 32), (.t 34)], none, 0, 0⟩,
          ⟨(.some 36), (.load true 4), [(.t 35)], none, 0, 0⟩,
          ⟨(.some 14), (.alloc [(.int .i64 0), (.int .i64 0), .nils, .nils]), [], none, 0, 0⟩,
          ⟨none, (.store 4), [(.t 14), (.t 36)], none, 0, 0⟩])
        (.seq
        (.seq
        (.drawn [0, 1, 2, 3, 4, 12, 13, 14, 43] [
          ⟨(.some 37), .mv, [(.t 4)], none, 0, 1⟩,
          ⟨(.some 38), .mv, [(.t 12)], none, 0, 1⟩,
          ⟨(.some 39), (.slice 1 true false false), [(.t 37), (.t 38)], none, 0, 1⟩,
          ⟨(.some 40), .mv, [(.t 13)], none, 0, 0⟩,
          ⟨(.some 41), (.call 35), [(.t 40)], none, 0, 1⟩,
          ⟨(.some 42), (.call 18), [(.t 39), (.t 41)], none, 1, 2⟩,
          ⟨(.some 43), .not, [(.t 42)], none, 2, 2⟩])
        (.cond (.t 43)
          (.exit 1)
          .skip))
        (.seq
        (.drawn [0, 1, 2, 3, 4, 12, 13, 14, 67] [
          ⟨(.some 44), (.fieldAddr 0), [(.t 14)], none, 0, 0⟩,
          ⟨(.some 45), (.load false 1), [(.t 44)], none, 0, 0⟩,
          ⟨(.some 46), .mv, [(.t 1)], none, 0, 0⟩,
          ⟨(.some 47), (.eq false .int), [(.t 45), (.t 46)], none, 0, 0⟩,
          ⟨(.some 48), .mv, [(.t 47)], none, 0, 0⟩,
          ⟨(.some 49), (.fieldAddr 1), [(.t 14)], (.some (48, true)), 0, 0⟩,
          ⟨(.some 50), (.load false 1), [(.t 49)], (.some (48, true)), 0, 0⟩,
          ⟨(.some 51), .mv, [(.t 2)], (.some (48, true)), 0, 0⟩,
          ⟨(.some 52), (.eq false .int), [(.t 50), (.t 51)], (.some (48, true)), 0, 0⟩,
          ⟨(.some 53), .pick, [(.t 48), (.t 52), (.c (.bool false))], none, 0, 0⟩,
          ⟨(.some 54), .mv, [(.t 53)], none, 0, 0⟩,
          ⟨(.some 55), (.fieldAddr 2), [(.t 14)], (.some (54, true)), 0, 0⟩,
          ⟨(.some 56), (.load false 1), [(.t 55)], (.some (54, true)), 0, 0⟩,
          ⟨(.some 57), .mv, [(.t 3)], (.some (54, true)), 0, 0⟩,
          ⟨(.some 58), (.call 18), [(.t 56), (.t 57)], (.some (54, true)), 0, 1⟩,
          ⟨(.some 59), .pick, [(.t 54), (.t 58), (.c (.bool false))], none, 1, 1⟩,
          ⟨(.some 60), .mv, [(.t 59)], none, 1, 1⟩,
          ⟨(.some 61), (.fieldAddr 3), [(.t 14)], (.some (60, true)), 1, 1⟩,
          ⟨(.some 62), (.load false 1), [(.t 61)], (.some (60, true)), 1, 1⟩,
          ⟨(.some 63), .mv, [(.t 4)], (.some (60, true)), 1, 1⟩,
          ⟨(.some 64), .mv, [(.t 12)], (.some (60, true)), 1, 1⟩,
          ⟨(.some 65), (.slice 1 false true false), [(.t 63), (.t 64)], (.some (60, true)), 1, 1⟩,
          ⟨(.some 66), (.call 18), [(.t 62), (.t 65)], (.some (60, true)), 1, 2⟩,
          ⟨(.some 67), .pick, [(.t 60), (.t 66), (.c (.bool false))], none, 2, 2⟩])
        (.cond (.t 67)
          (.seq
          (.ops [10, 11] [
            ⟨(.some 68), (.fieldAddr 3), [(.t 14)], none, 0, 0⟩,
            ⟨(.some 69), (.load false 1), [(.t 68)], none, 0, 0⟩,
            ⟨(.some 70), (.call 30), [(.t 69)], none, 0, 0⟩,
            ⟨(.some 10), .mv, [(.t 70)], none, 0, 0⟩,
            ⟨(.some 11), .mv, [(.c (.bool true))], none, 0, 0⟩])
          .ret)
          .skip)))))
      (.ops [0, 1, 2, 3, 4, 12, 13] [
        ⟨(.some 27), .mv, [(.t 13)], none, 0, 0⟩,
        ⟨(.some 28), (.arith .add), [(.t 27), (.c (.int .i64 1))], none, 0, 0⟩,
        ⟨(.some 13), .mv, [(.t 28)], none, 0, 0⟩]))))))
  (.seq
  (.ops [10, 11] [
    ⟨(.some 10), .mv, [(.c .nils)], none, 0, 0⟩,
    ⟨(.some 11), .mv, [(.c (.bool false))], none, 0, 0⟩])
  .ret)))))
def r21 : List ARes := [(.tmp 10), (.tmp 11)]
theorem ok21 : FnOk Try.prog 21 c21 r21 :=
  ⟨Try.f21, _, Try.func21, by kernel_rfl, rfl, by kernel_rfl, by kernel_rfl⟩
/-- (*rill/names.Names).Sum -/
def c22 : ACode :=
  (.seq
  (.ops [0, 1, 4] [
    ⟨(.some 4), (.alloc (List.replicate 32 (.int .u8 0))), [], none, 0, 0⟩])
  (.seq
  (.drawn [0, 1, 4, 5, 6] [
    ⟨(.some 10), .mv, [(.t 0)], none, 0, 0⟩,
    ⟨(.some 11), .nilCheck, [(.t 10)], none, 0, 0⟩,
    ⟨(.some 12), (.fieldAddr 2), [(.t 11)], none, 0, 0⟩,
    ⟨(.some 13), (.load false 1), [(.t 12)], none, 0, 0⟩,
    ⟨(.some 14), .mv, [(.t 1)], none, 0, 0⟩,
    ⟨(.some 15), .b2s, [(.t 14)], none, 0, 0⟩,
    ⟨(.some 16), (.lookup (.one .s) (.int .i64 0) true), [(.t 13), (.t 15)], none, 0, 0⟩,
    ⟨(.some 9), .mv, [(.t 16)], none, 0, 0⟩,
    ⟨(.some 17), (.extract 0), [(.t 9)], none, 0, 0⟩,
    ⟨(.some 18), (.extract 1), [(.t 9)], none, 0, 0⟩,
    ⟨(.some 5), .mv, [(.t 17)], none, 0, 0⟩,
    ⟨(.some 6), .mv, [(.t 18)], none, 0, 0⟩])
  (.seq
  (.seq
  (.ops [0, 1, 4, 5, 20] [
    ⟨(.some 19), .mv, [(.t 6)], none, 0, 0⟩,
    ⟨(.some 20), .not, [(.t 19)], none, 0, 0⟩])
  (.cond (.t 20)
    (.seq
    (.ops [0, 1, 4, 5] [
      ⟨(.some 21), .mv, [(.t 0)], none, 0, 0⟩,
      ⟨(.some 22), .nilCheck, [(.t 21)], none, 0, 0⟩,
      ⟨(.some 23), (.fieldAddr 2), [(.t 22)], none, 0, 0⟩,
      ⟨(.some 24), (.load false 1), [(.t 23)], none, 0, 0⟩,
      ⟨(.some 25), .lenMap, [(.t 24)], none, 0, 0⟩,
      ⟨(.some 26), (.arith .add), [(.t 25), (.c (.int .i64 1))], none, 0, 0⟩,
      ⟨(.some 5), .mv, [(.t 26)], none, 0, 0⟩])
    (.drawn [4, 5] [
      ⟨(.some 27), .mv, [(.t 0)], none, 0, 0⟩,
      ⟨(.some 28), .nilCheck, [(.t 27)], none, 0, 0⟩,
      ⟨(.some 29), (.fieldAddr 2), [(.t 28)], none, 0, 0⟩,
      ⟨(.some 30), (.load false 1), [(.t 29)], none, 0, 0⟩,
      ⟨(.some 31), .mv, [(.t 1)], none, 0, 0⟩,
      ⟨(.some 32), .b2s, [(.t 31)], none, 0, 0⟩,
      ⟨(.some 33), .mv, [(.t 5)], none, 0, 0⟩,
      ⟨none, (.mapSet (.one .s)), [(.t 30), (.t 32), (.t 33)], none, 0, 1⟩]))
    .skip))
  (.seq
  (.ops [4, 5, 7] [
    ⟨(.some 7), (.alloc (List.replicate 32 (.int .u8 0))), [], none, 0, 0⟩])
  (.seq
  (.seq
  (.ops [4, 5, 7, 34] [
    ⟨(.some 34), .mv, [(.c (.int .i64 0))], none, 0, 0⟩])
  (.block 0
    (.loop [4, 5, 7, 34]
      (.seq
      (.ops [4, 5, 7, 34, 35] [
        ⟨(.some 35), (.cmp .lss), [(.t 34), (.c (.int .i64 32))], none, 0, 0⟩])
      (.seq
      (.cond (.t 35)
        .skip
        (.exit 0))
      (.seq
      (.block 1
        (.seq
        (.ops [4, 5, 7, 8, 34] [
          ⟨(.some 36), .mv, [(.t 34)], none, 0, 0⟩,
          ⟨(.some 8), .mv, [(.t 36)], none, 0, 0⟩])
        (.ops [4, 5, 7, 34] [
          ⟨(.some 37), .mv, [(.t 8)], none, 0, 0⟩,
          ⟨(.some 38), (.idxAddrArr 32 1), [(.t 7), (.t 37)], none, 0, 0⟩,
          ⟨none, (.store 1), [(.t 38), (.c (.int .u8 1))], none, 0, 0⟩])))
      (.ops [4, 5, 7, 34] [
        ⟨(.some 39), (.arith .add), [(.t 34), (.c (.int .i64 1))], none, 0, 0⟩,
        ⟨(.some 34), .mv, [(.t 39)], none, 0, 0⟩])))))))
  (.seq
  (.drawn [4, 7] [
    ⟨(.some 40), (.sliceArr 32 1 true false false), [(.t 7), (.c (.int .i64 24))], none, 0, 1⟩,
    ⟨(.some 41), .mv, [(.t 5)], none, 0, 0⟩,
    ⟨(.some 42), (.call 33), [(.t 41)], none, 0, 1⟩,
    ⟨(.some 43), (.copy 1), [(.t 40), (.t 42)], none, 1, 2⟩])
  (.seq
  (.ops [4] [
    ⟨(.some 44), (.load true 32), [(.t 7)], none, 0, 0⟩,
    ⟨none, (.store 32), [(.t 4), (.t 44)], none, 0, 0⟩])
  .ret)))))))
def r22 : List ARes := [(.cell 4 true 32)]
theorem ok22 : FnOk Try.prog 22 c22 r22 :=
  ⟨Try.f22, _, Try.func22, by kernel_rfl, rfl, by kernel_rfl, by kernel_rfl⟩
/-- (*rill/rillref06.Names).Sum -/
def c23 : ACode :=
  (.seq
  (.ops [0, 1, 4] [
    ⟨(.some 4), (.alloc (List.replicate 32 (.int .u8 0))), [], none, 0, 0⟩])
  (.seq
  (.ops [0, 1, 4, 5] [
    ⟨(.some 5), .mv, [(.c (.int .i64 0))], none, 0, 0⟩])
  (.seq
  (.seq
  (.ops [0, 1, 4, 5, 6] [
    ⟨(.some 6), .mv, [(.c (.int .i64 0))], none, 0, 0⟩])
  (.block 0
    (.loop [0, 1, 4, 5, 6]
      (.seq
      (.seq
      (.ops [0, 1, 4, 5, 6, 17] [
        ⟨(.some 11), .mv, [(.t 6)], none, 0, 0⟩,
        ⟨(.some 12), .mv, [(.t 0)], none, 0, 0⟩,
        ⟨(.some 13), .nilCheck, [(.t 12)], none, 0, 0⟩,
        ⟨(.some 14), (.fieldAddr 1), [(.t 13)], none, 0, 0⟩,
        ⟨(.some 15), (.load false 1), [(.t 14)], none, 0, 0⟩,
        ⟨(.some 16), .len, [(.t 15)], none, 0, 0⟩,
        ⟨(.some 17), (.cmp .lss), [(.t 11), (.t 16)], none, 0, 0⟩])
      (.cond (.t 17)
        .skip
        (.exit 0)))
      (.seq
      (.block 1
        (.seq
        (.ops [0, 1, 4, 5, 6, 28] [
          ⟨(.some 20), .mv, [(.t 0)], none, 0, 0⟩,
          ⟨(.some 21), .nilCheck, [(.t 20)], none, 0, 0⟩,
          ⟨(.some 22), (.fieldAddr 1), [(.t 21)], none, 0, 0⟩,
          ⟨(.some 23), (.load false 1), [(.t 22)], none, 0, 0⟩,
          ⟨(.some 24), .mv, [(.t 6)], none, 0, 0⟩,
          ⟨(.some 25), (.idxAddr 1), [(.t 23), (.t 24)], none, 0, 0⟩,
          ⟨(.some 26), (.load false 1), [(.t 25)], none, 0, 0⟩,
          ⟨(.some 27), .mv, [(.t 1)], none, 0, 0⟩,
          ⟨(.some 28), (.call 18), [(.t 26), (.t 27)], none, 0, 0⟩])
        (.cond (.t 28)
          (.ops [0, 1, 4, 5, 6] [
            ⟨(.some 29), .mv, [(.t 6)], none, 0, 0⟩,
            ⟨(.some 30), (.arith .add), [(.t 29), (.c (.int .i64 1))], none, 0, 0⟩,
            ⟨(.some 5), .mv, [(.t 30)], none, 0, 0⟩])
          .skip)))
      (.ops [0, 1, 4, 5, 6] [
        ⟨(.some 18), .mv, [(.t 6)], none, 0, 0⟩,
        ⟨(.some 19), (.arith .add), [(.t 18), (.c (.int .i64 1))], none, 0, 0⟩,
        ⟨(.some 6), .mv, [(.t 19)], none, 0, 0⟩]))))))
  (.seq
  (.seq
  (.ops [0, 1, 4, 5, 32] [
    ⟨(.some 31), .mv, [(.t 5)], none, 0, 0⟩,
    ⟨(.some 32), (.eq false .int), [(.t 31), (.c (.int .i64 0))], none, 0, 0⟩])
  (.cond (.t 32)
    (.seq
    (.drawn [0, 4] [
      ⟨(.some 33), .mv, [(.t 0)], none, 0, 2⟩,
      ⟨(.some 34), .mv, [(.t 0)], none, 0, 1⟩,
      ⟨(.some 35), .nilCheck, [(.t 34)], none, 0, 1⟩,
      ⟨(.some 36), (.fieldAddr 1), [(.t 35)], none, 0, 1⟩,
      ⟨(.some 37), (.load false 1), [(.t 36)], none, 0, 1⟩,
      ⟨(.some 38), .mv, [(.t 1)], none, 0, 0⟩,
      ⟨(.some 39), (.call 30), [(.t 38)], none, 0, 1⟩,
      ⟨(.some 40), (.mkSl 1 [.nils] [(0, 1)]), [(.t 39)], none, 1, 1⟩,
      ⟨(.some 41), (.append 1 24), [(.t 37), (.t 40)], none, 1, 2⟩,
      ⟨(.some 42), .nilCheck, [(.t 33)], none, 2, 2⟩,
      ⟨(.some 43), (.fieldAddr 1), [(.t 42)], none, 2, 2⟩,
      ⟨none, (.store 1), [(.t 43), (.t 41)], none, 2, 3⟩])
    (.ops [4, 5] [
      ⟨(.some 44), .mv, [(.t 0)], none, 0, 0⟩,
      ⟨(.some 45), .nilCheck, [(.t 44)], none, 0, 0⟩,
      ⟨(.some 46), (.fieldAddr 1), [(.t 45)], none, 0, 0⟩,
      ⟨(.some 47), (.load false 1), [(.t 46)], none, 0, 0⟩,
      ⟨(.some 48), .len, [(.t 47)], none, 0, 0⟩,
      ⟨(.some 5), .mv, [(.t 48)], none, 0, 0⟩]))
    .skip))
  (.seq
  (.ops [4, 5, 7] [
    ⟨(.some 7), (.alloc (List.replicate 32 (.int .u8 0))), [], none, 0, 0⟩])
  (.seq
  (.ops [4, 7, 8] [
    ⟨(.some 49), .mv, [(.t 5)], none, 0, 0⟩,
    ⟨(.some 50), (.call 38), [(.t 49)], none, 0, 0⟩,
    ⟨(.some 8), .mv, [(.t 50)], none, 0, 0⟩])
  (.seq
  (.seq
  (.ops [4, 7, 8, 9] [
    ⟨(.some 9), .mv, [(.c (.int .i64 0))], none, 0, 0⟩])
  (.block 2
    (.loop [4, 7, 8, 9]
      (.seq
      (.seq
      (.ops [4, 7, 8, 9, 52] [
        ⟨(.some 51), .mv, [(.t 9)], none, 0, 0⟩,
        ⟨(.some 52), (.cmp .lss), [(.t 51), (.c (.int .i64 24))], none, 0, 0⟩])
      (.cond (.t 52)
        .skip
        (.exit 2)))
      (.seq
      (.block 3
        (.ops [4, 7, 8, 9] [
          ⟨(.some 55), .mv, [(.t 9)], none, 0, 0⟩,
          ⟨(.some 56), (.idxAddrArr 32 1), [(.t 7), (.t 55)], none, 0, 0⟩,
          ⟨none, (.store 1), [(.t 56), (.c (.int .u8 1))], none, 0, 0⟩]))
      (.ops [4, 7, 8, 9] [
        ⟨(.some 53), .mv, [(.t 9)], none, 0, 0⟩,
        ⟨(.some 54), (.arith .add), [(.t 53), (.c (.int .i64 1))], none, 0, 0⟩,
        ⟨(.some 9), .mv, [(.t 54)], none, 0, 0⟩]))))))
  (.seq
  (.seq
  (.ops [4, 7, 8, 10] [
    ⟨(.some 10), .mv, [(.c (.int .i64 0))], none, 0, 0⟩])
  (.block 4
    (.loop [4, 7, 8, 10]
      (.seq
      (.seq
      (.ops [4, 7, 8, 10, 58] [
        ⟨(.some 57), .mv, [(.t 10)], none, 0, 0⟩,
        ⟨(.some 58), (.cmp .lss), [(.t 57), (.c (.int .i64 8))], none, 0, 0⟩])
      (.cond (.t 58)
        .skip
        (.exit 4)))
      (.seq
      (.block 5
        (.ops [4, 7, 8, 10] [
          ⟨(.some 61), .mv, [(.t 10)], none, 0, 0⟩,
          ⟨(.some 62), (.arith .add), [(.c (.int .i64 24)), (.t 61)], none, 0, 0⟩,
          ⟨(.some 63), .mv, [(.t 8)], none, 0, 0⟩,
          ⟨(.some 64), .mv, [(.t 10)], none, 0, 0⟩,
          ⟨(.some 65), (.idxAddr 1), [(.t 63), (.t 64)], none, 0, 0⟩,
          ⟨(.some 66), (.load false 1), [(.t 65)], none, 0, 0⟩,
          ⟨(.some 67), (.idxAddrArr 32 1), [(.t 7), (.t 62)], none, 0, 0⟩,
          ⟨none, (.store 1), [(.t 67), (.t 66)], none, 0, 0⟩]))
      (.ops [4, 7, 8, 10] [
        ⟨(.some 59), .mv, [(.t 10)], none, 0, 0⟩,
        ⟨(.some 60), (.arith .add), [(.t 59), (.c (.int .i64 1))], none, 0, 0⟩,
        ⟨(.some 10), .mv, [(.t 60)], none, 0, 0⟩]))))))
  (.seq
  (.ops [4] [
    ⟨(.some 68), (.load true 32), [(.t 7)], none, 0, 0⟩,
    ⟨none, (.store 32), [(.t 4), (.t 68)], none, 0, 0⟩])
  .ret)))))))))
def r23 : List ARes := [(.cell 4 true 32)]
theorem ok23 : FnOk Try.prog 23 c23 r23 :=
  ⟨Try.f23, _, Try.func23, by kernel_rfl, rfl, by kernel_rfl, by kernel_rfl⟩
/-- rill/rillkit.KeptBytes -/
def c24 : ACode :=
  (.seq
  (.ops [0, 1] [
    ⟨(.some 4), .mv, [(.c (.bool false))], none, 0, 0⟩])
  (.seq
  (.seq
  (.ops [0, 1, 20] [
    ⟨(.some 6), .mv, [(.t 0)], none, 0, 0⟩,
    ⟨(.some 7), .len, [(.t 6)], none, 0, 0⟩,
    ⟨(.some 8), .mv, [(.t 1)], none, 0, 0⟩,
    ⟨(.some 9), .len, [(.t 8)], none, 0, 0⟩,
    ⟨(.some 10), (.arith .add), [(.t 9), (.c (.int .i64 5))], none, 0, 0⟩,
    ⟨(.some 11), (.eq true .int), [(.t 7), (.t 10)], none, 0, 0⟩,
    ⟨(.some 12), .mv, [(.t 11)], none, 0, 0⟩,
    ⟨(.some 13), .mv, [(.t 0)], (.some (12, false)), 0, 0⟩,
    ⟨(.some 14), .mv, [(.t 1)], (.some (12, false)), 0, 0⟩,
    ⟨(.some 15), .len, [(.t 14)], (.some (12, false)), 0, 0⟩,
    ⟨(.some 16), (.slice 1 false true false), [(.t 13), (.t 15)], (.some (12, false)), 0, 0⟩,
    ⟨(.some 17), .mv, [(.t 1)], (.some (12, false)), 0, 0⟩,
    ⟨(.some 18), (.call 18), [(.t 16), (.t 17)], (.some (12, false)), 0, 0⟩,
    ⟨(.some 19), .not, [(.t 18)], (.some (12, false)), 0, 0⟩,
    ⟨(.some 20), .pick, [(.t 12), (.c (.bool true)), (.t 19)], none, 0, 0⟩])
  (.cond (.t 20)
    (.seq
    (.ops [4] [
      ⟨(.some 4), .mv, [(.c (.bool false))], none, 0, 0⟩])
    .ret)
    .skip))
  (.seq
  (.seq
  (.ops [0, 5] [
    ⟨(.some 21), .mv, [(.t 1)], none, 0, 0⟩,
    ⟨(.some 22), .len, [(.t 21)], none, 0, 0⟩,
    ⟨(.some 5), .mv, [(.t 22)], none, 0, 0⟩])
  (.block 0
    (.loop [0, 5]
      (.seq
      (.seq
      (.ops [0, 5, 26] [
        ⟨(.some 23), .mv, [(.t 5)], none, 0, 0⟩,
        ⟨(.some 24), .mv, [(.t 0)], none, 0, 0⟩,
        ⟨(.some 25), .len, [(.t 24)], none, 0, 0⟩,
        ⟨(.some 26), (.cmp .lss), [(.t 23), (.t 25)], none, 0, 0⟩])
      (.cond (.t 26)
        .skip
        (.exit 0)))
      (.seq
      (.block 1
        (.seq
        (.ops [0, 5, 33] [
          ⟨(.some 29), .mv, [(.t 0)], none, 0, 0⟩,
          ⟨(.some 30), .mv, [(.t 5)], none, 0, 0⟩,
          ⟨(.some 31), (.idxAddr 1), [(.t 29), (.t 30)], none, 0, 0⟩,
          ⟨(.some 32), (.load false 1), [(.t 31)], none, 0, 0⟩,
          ⟨(.some 33), (.eq true .int), [(.t 32), (.c (.int .u8 165))], none, 0, 0⟩])
        (.cond (.t 33)
          (.seq
          (.ops [4] [
            ⟨(.some 4), .mv, [(.c (.bool false))], none, 0, 0⟩])
          .ret)
          .skip)))
      (.ops [0, 5] [
        ⟨(.some 27), .mv, [(.t 5)], none, 0, 0⟩,
        ⟨(.some 28), (.arith .add), [(.t 27), (.c (.int .i64 1))], none, 0, 0⟩,
        ⟨(.some 5), .mv, [(.t 28)], none, 0, 0⟩]))))))
  (.seq
  (.ops [4] [
    ⟨(.some 4), .mv, [(.c (.bool true))], none, 0, 0⟩])
  .ret))))
def r24 : List ARes := [(.tmp 4)]
theorem ok24 : FnOk Try.prog 24 c24 r24 :=
  ⟨Try.f24, _, Try.func24, by kernel_rfl, rfl, by kernel_rfl, by kernel_rfl⟩
/-- rill/rilllaw06.great -/
def c25 : ACode :=
  (.seq
  (.ops [0] [
    ⟨(.some 2), .mv, [(.c (.bool false))], none, 0, 0⟩])
  (.seq
  (.seq
  (.ops [0, 6] [
    ⟨(.some 4), .mv, [(.t 0)], none, 0, 0⟩,
    ⟨(.some 5), .len, [(.t 4)], none, 0, 0⟩,
    ⟨(.some 6), (.cmp .gtr), [(.t 5), (.c (.int .i64 60))], none, 0, 0⟩])
  (.cond (.t 6)
    (.seq
    (.ops [2] [
      ⟨(.some 2), .mv, [(.c (.bool true))], none, 0, 0⟩])
    .ret)
    .skip))
  (.seq
  (.seq
  (.ops [0, 3] [
    ⟨(.some 3), .mv, [(.c (.int .i64 0))], none, 0, 0⟩])
  (.block 0
    (.loop [0, 3]
      (.seq
      (.seq
      (.ops [0, 3, 10] [
        ⟨(.some 7), .mv, [(.t 3)], none, 0, 0⟩,
        ⟨(.some 8), .mv, [(.t 0)], none, 0, 0⟩,
        ⟨(.some 9), .len, [(.t 8)], none, 0, 0⟩,
        ⟨(.some 10), (.cmp .lss), [(.t 7), (.t 9)], none, 0, 0⟩])
      (.cond (.t 10)
        .skip
        (.exit 0)))
      (.seq
      (.block 1
        (.seq
        (.ops [0, 3, 28] [
          ⟨(.some 13), .mv, [(.t 0)], none, 0, 0⟩,
          ⟨(.some 14), .mv, [(.t 3)], none, 0, 0⟩,
          ⟨(.some 15), (.idxAddr 4), [(.t 13), (.t 14)], none, 0, 0⟩,
          ⟨(.some 16), (.fieldAddr 2), [(.t 15)], none, 0, 0⟩,
          ⟨(.some 17), (.load false 1), [(.t 16)], none, 0, 0⟩,
          ⟨(.some 18), .len, [(.t 17)], none, 0, 0⟩,
          ⟨(.some 19), (.cmp .gtr), [(.t 18), (.c (.int .i64 1024))], none, 0, 0⟩,
          ⟨(.some 20), .mv, [(.t 19)], none, 0, 0⟩,
          ⟨(.some 21), .mv, [(.t 0)], (.some (20, false)), 0, 0⟩,
          ⟨(.some 22), .mv, [(.t 3)], (.some (20, false)), 0, 0⟩,
          ⟨(.some 23), (.idxAddr 4), [(.t 21), (.t 22)], (.some (20, false)), 0, 0⟩,
          ⟨(.some 24), (.fieldAddr 3), [(.t 23)], (.some (20, false)), 0, 0⟩,
          ⟨(.some 25), (.load false 1), [(.t 24)], (.some (20, false)), 0, 0⟩,
          ⟨(.some 26), .len, [(.t 25)], (.some (20, false)), 0, 0⟩,
          ⟨(.some 27), (.cmp .gtr), [(.t 26), (.c (.int .i64 4096))], (.some (20, false)), 0, 0⟩,
          ⟨(.some 28), .pick, [(.t 20), (.c (.bool true)), (.t 27)], none, 0, 0⟩])
        (.cond (.t 28)
          (.seq
          (.ops [2] [
            ⟨(.some 2), .mv, [(.c (.bool true))], none, 0, 0⟩])
          .ret)
          .skip)))
      (.ops [0, 3] [
        ⟨(.some 11), .mv, [(.t 3)], none, 0, 0⟩,
        ⟨(.some 12), (.arith .add), [(.t 11), (.c (.int .i64 1))], none, 0, 0⟩,
        ⟨(.some 3), .mv, [(.t 12)], none, 0, 0⟩]))))))
  (.seq
  (.ops [2] [
    ⟨(.some 2), .mv, [(.c (.bool false))], none, 0, 0⟩])
  .ret))))
def r25 : List ARes := [(.tmp 2)]
theorem ok25 : FnOk Try.prog 25 c25 r25 :=
  ⟨Try.f25, _, Try.func25, by kernel_rfl, rfl, by kernel_rfl, by kernel_rfl⟩
/-- rill/rilllaw06.may -/
def c26 : ACode :=
  (.seq
  (.ops [1] [
    ⟨(.some 1), .box, [(.t 0)], none, 0, 0⟩,
    ⟨(.some 2), .mv, [(.c (.bool false))], none, 0, 0⟩])
  (.seq
  (.ops [2] [
    ⟨(.some 3), (.fieldAddr 0), [(.t 1)], none, 0, 0⟩,
    ⟨(.some 4), (.load false 1), [(.t 3)], none, 0, 0⟩,
    ⟨(.some 5), (.cmp .geq), [(.t 4), (.c (.int .i64 0))], none, 0, 0⟩,
    ⟨(.some 6), .mv, [(.t 5)], none, 0, 0⟩,
    ⟨(.some 7), (.fieldAddr 1), [(.t 1)], (.some (6, true)), 0, 0⟩,
    ⟨(.some 8), (.load false 1), [(.t 7)], (.some (6, true)), 0, 0⟩,
    ⟨(.some 9), (.cmp .geq), [(.t 8), (.c (.int .i64 0))], (.some (6, true)), 0, 0⟩,
    ⟨(.some 10), .pick, [(.t 6), (.t 9), (.c (.bool false))], none, 0, 0⟩,
    ⟨(.some 11), .mv, [(.t 10)], none, 0, 0⟩,
    ⟨(.some 12), (.fieldAddr 0), [(.t 1)], (.some (11, true)), 0, 0⟩,
    ⟨(.some 13), (.load false 1), [(.t 12)], (.some (11, true)), 0, 0⟩,
    ⟨(.some 14), (.cmp .leq), [(.t 13), (.c (.int .i64 1099511627776))], (.some (11, true)), 0, 0⟩,
    ⟨(.some 15), .pick, [(.t 11), (.t 14), (.c (.bool false))], none, 0, 0⟩,
    ⟨(.some 16), .mv, [(.t 15)], none, 0, 0⟩,
    ⟨(.some 17), (.fieldAddr 1), [(.t 1)], (.some (16, true)), 0, 0⟩,
    ⟨(.some 18), (.load false 1), [(.t 17)], (.some (16, true)), 0, 0⟩,
    ⟨(.some 19), (.cmp .leq), [(.t 18), (.c (.int .i64 1099511627776))], (.some (16, true)), 0, 0⟩,
    ⟨(.some 20), .pick, [(.t 16), (.t 19), (.c (.bool false))], none, 0, 0⟩,
    ⟨(.some 2), .mv, [(.t 20)], none, 0, 0⟩])
  .ret))
def r26 : List ARes := [(.tmp 2)]
theorem ok26 : FnOk Try.prog 26 c26 r26 :=
  ⟨Try.f26, _, Try.func26, by kernel_rfl, rfl, by kernel_rfl, by kernel_rfl⟩
/-- rill/rilllaw06.same -/
def c27 : ACode :=
  (.seq
  (.ops [2, 3] [
    ⟨(.some 2), .box, [(.t 0)], none, 0, 0⟩,
    ⟨(.some 3), .box, [(.t 1)], none, 0, 0⟩,
    ⟨(.some 4), .mv, [(.c (.bool false))], none, 0, 0⟩])
  (.seq
  (.ops [4] [
    ⟨(.some 5), (.fieldAddr 0), [(.t 2)], none, 0, 0⟩,
    ⟨(.some 6), (.load false 1), [(.t 5)], none, 0, 0⟩,
    ⟨(.some 7), (.fieldAddr 0), [(.t 3)], none, 0, 0⟩,
    ⟨(.some 8), (.load false 1), [(.t 7)], none, 0, 0⟩,
    ⟨(.some 9), (.eq false .int), [(.t 6), (.t 8)], none, 0, 0⟩,
    ⟨(.some 10), .mv, [(.t 9)], none, 0, 0⟩,
    ⟨(.some 11), (.fieldAddr 1), [(.t 2)], (.some (10, true)), 0, 0⟩,
    ⟨(.some 12), (.load false 1), [(.t 11)], (.some (10, true)), 0, 0⟩,
    ⟨(.some 13), (.fieldAddr 1), [(.t 3)], (.some (10, true)), 0, 0⟩,
    ⟨(.some 14), (.load false 1), [(.t 13)], (.some (10, true)), 0, 0⟩,
    ⟨(.some 15), (.eq false .int), [(.t 12), (.t 14)], (.some (10, true)), 0, 0⟩,
    ⟨(.some 16), .pick, [(.t 10), (.t 15), (.c (.bool false))], none, 0, 0⟩,
    ⟨(.some 17), .mv, [(.t 16)], none, 0, 0⟩,
    ⟨(.some 18), (.fieldAddr 2), [(.t 2)], (.some (17, true)), 0, 0⟩,
    ⟨(.some 19), (.load false 1), [(.t 18)], (.some (17, true)), 0, 0⟩,
    ⟨(.some 20), (.fieldAddr 2), [(.t 3)], (.some (17, true)), 0, 0⟩,
    ⟨(.some 21), (.load false 1), [(.t 20)], (.some (17, true)), 0, 0⟩,
    ⟨(.some 22), (.call 18), [(.t 19), (.t 21)], (.some (17, true)), 0, 0⟩,
    ⟨(.some 23), .pick, [(.t 17), (.t 22), (.c (.bool false))], none, 0, 0⟩,
    ⟨(.some 24), .mv, [(.t 23)], none, 0, 0⟩,
    ⟨(.some 25), (.fieldAddr 3), [(.t 2)], (.some (24, true)), 0, 0⟩,
    ⟨(.some 26), (.load false 1), [(.t 25)], (.some (24, true)), 0, 0⟩,
    ⟨(.some 27), (.fieldAddr 3), [(.t 3)], (.some (24, true)), 0, 0⟩,
    ⟨(.some 28), (.load false 1), [(.t 27)], (.some (24, true)), 0, 0⟩,
    ⟨(.some 29), (.call 18), [(.t 26), (.t 28)], (.some (24, true)), 0, 0⟩,
    ⟨(.some 30), .pick, [(.t 24), (.t 29), (.c (.bool false))], none, 0, 0⟩,
    ⟨(.some 4), .mv, [(.t 30)], none, 0, 0⟩])
  .ret))
def r27 : List ARes := [(.tmp 4)]
theorem ok27 : FnOk Try.prog 27 c27 r27 :=
  ⟨Try.f27, _, Try.func27, by kernel_rfl, rfl, by kernel_rfl, by kernel_rfl⟩
/-- rill/rillkit.Big -/
def c28 : ACode :=
  (.seq
  (.ops [0, 1, 2] [
    ⟨(.some 6), .mv, [(.c (.bool false))], none, 0, 0⟩])
  (.seq
  (.seq
  (.ops [0, 2, 12] [
    ⟨(.some 9), .mv, [(.t 0)], none, 0, 0⟩,
    ⟨(.some 10), .len, [(.t 9)], none, 0, 0⟩,
    ⟨(.some 11), .mv, [(.t 1)], none, 0, 0⟩,
    ⟨(.some 12), (.cmp .gtr), [(.t 10), (.t 11)], none, 0, 0⟩])
  (.cond (.t 12)
    (.seq
    (.ops [6] [
      ⟨(.some 6), .mv, [(.c (.bool true))], none, 0, 0⟩])
    .ret)
    .skip))
  (.seq
  (.ops [0, 2, 7] [
    ⟨(.some 7), .mv, [(.c (.int .i64 0))], none, 0, 0⟩])
  (.seq
  (.seq
  (.ops [0, 2, 7, 8] [
    ⟨(.some 8), .mv, [(.c (.int .i64 0))], none, 0, 0⟩])
  (.block 0
    (.loop [0, 2, 7, 8]
      (.seq
      (.seq
      (.ops [0, 2, 7, 8, 16] [
        ⟨(.some 13), .mv, [(.t 8)], none, 0, 0⟩,
        ⟨(.some 14), .mv, [(.t 0)], none, 0, 0⟩,
        ⟨(.some 15), .len, [(.t 14)], none, 0, 0⟩,
        ⟨(.some 16), (.cmp .lss), [(.t 13), (.t 15)], none, 0, 0⟩])
      (.cond (.t 16)
        .skip
        (.exit 0)))
      (.seq
      (.block 1
        (.seq
        (.ops [0, 2, 7, 8] [
          ⟨(.some 19), .mv, [(.t 7)], none, 0, 0⟩,
          ⟨(.some 20), .mv, [(.t 0)], none, 0, 0⟩,
          ⟨(.some 21), .mv, [(.t 8)], none, 0, 0⟩,
          ⟨(.some 22), (.idxAddr 1), [(.t 20), (.t 21)], none, 0, 0⟩,
          ⟨(.some 23), (.load false 1), [(.t 22)], none, 0, 0⟩,
          ⟨(.some 24), .len, [(.t 23)], none, 0, 0⟩,
          ⟨(.some 25), .mv, [(.t 2)], none, 0, 0⟩,
          ⟨(.some 26), (.arith .add), [(.t 25), (.c (.int .i64 1))], none, 0, 0⟩,
          ⟨(.some 27), .min, [(.t 24), (.t 26)], none, 0, 0⟩,
          ⟨(.some 28), (.arith .add), [(.t 19), (.t 27)], none, 0, 0⟩,
          ⟨(.some 7), .mv, [(.t 28)], none, 0, 0⟩])
        (.seq
        (.ops [0, 2, 7, 8, 31] [
          ⟨(.some 29), .mv, [(.t 7)], none, 0, 0⟩,
          ⟨(.some 30), .mv, [(.t 2)], none, 0, 0⟩,
          ⟨(.some 31), (.cmp .gtr), [(.t 29), (.t 30)], none, 0, 0⟩])
        (.cond (.t 31)
          (.seq
          (.ops [6] [
            ⟨(.some 6), .mv, [(.c (.bool true))], none, 0, 0⟩])
          .ret)
          .skip))))
      (.ops [0, 2, 7, 8] [
        ⟨(.some 17), .mv, [(.t 8)], none, 0, 0⟩,
        ⟨(.some 18), (.arith .add), [(.t 17), (.c (.int .i64 1))], none, 0, 0⟩,
        ⟨(.some 8), .mv, [(.t 18)], none, 0, 0⟩]))))))
  (.seq
  (.ops [6] [
    ⟨(.some 6), .mv, [(.c (.bool false))], none, 0, 0⟩])
  .ret)))))
def r28 : List ARes := [(.tmp 6)]
theorem ok28 : FnOk Try.prog 28 c28 r28 :=
  ⟨Try.f28, _, Try.func28, by kernel_rfl, rfl, by kernel_rfl, by kernel_rfl⟩
/-- rill/rilllaw06.crypt -/
def c29 : ACode :=
  (.seq
  (.ops [] [
    ⟨(.some 0), .mv, [(.c .nili)], none, 0, 0⟩])
  (.seq
  (.ops [0] [
    ⟨(.some 1), (.call 11), [], none, 0, 0⟩,
    ⟨(.some 2), (.iface 25), [(.t 1)], none, 0, 0⟩,
    ⟨(.some 0), .mv, [(.t 2)], none, 0, 0⟩])
  .ret))
def r29 : List ARes := [(.tmp 0)]
theorem ok29 : FnOk Try.prog 29 c29 r29 :=
  ⟨Try.f29, _, Try.func29, by kernel_rfl, rfl, by kernel_rfl, by kernel_rfl⟩
/-- rill/rillkit.CopyBytes -/
def c30 : ACode :=
  (.seq
  (.ops [0] [
    ⟨(.some 2), .mv, [(.c .nils)], none, 0, 0⟩])
  (.seq
  (.ops [0, 3] [
    ⟨(.some 3), .mv, [(.c .nils)], none, 0, 0⟩])
  (.seq
  (.seq
  (.ops [0, 3, 4] [
    ⟨(.some 4), .mv, [(.c (.int .i64 0))], none, 0, 0⟩])
  (.block 0
    (.loop [0, 3, 4]
      (.seq
      (.seq
      (.ops [0, 3, 4, 8] [
        ⟨(.some 5), .mv, [(.t 4)], none, 0, 0⟩,
        ⟨(.some 6), .mv, [(.t 0)], none, 0, 0⟩,
        ⟨(.some 7), .len, [(.t 6)], none, 0, 0⟩,
        ⟨(.some 8), (.cmp .lss), [(.t 5), (.t 7)], none, 0, 0⟩])
      (.cond (.t 8)
        .skip
        (.exit 0)))
      (.seq
      (.block 1
        (.ops [0, 3, 4] [
          ⟨(.some 11), .mv, [(.t 3)], none, 0, 0⟩,
          ⟨(.some 12), .mv, [(.t 0)], none, 0, 0⟩,
          ⟨(.some 13), .mv, [(.t 4)], none, 0, 0⟩,
          ⟨(.some 14), (.idxAddr 1), [(.t 12), (.t 13)], none, 0, 0⟩,
          ⟨(.some 15), (.load false 1), [(.t 14)], none, 0, 0⟩,
          ⟨(.some 16), (.mkSl 1 [(.int .u8 0)] [(0, 1)]), [(.t 15)], none, 0, 0⟩,
          ⟨(.some 17), (.append 1 1), [(.t 11), (.t 16)], none, 0, 0⟩,
          ⟨(.some 3), .mv, [(.t 17)], none, 0, 0⟩]))
      (.ops [0, 3, 4] [
        ⟨(.some 9), .mv, [(.t 4)], none, 0, 0⟩,
        ⟨(.some 10), (.arith .add), [(.t 9), (.c (.int .i64 1))], none, 0, 0⟩,
        ⟨(.some 4), .mv, [(.t 10)], none, 0, 0⟩]))))))
  (.seq
  (.ops [2] [
    ⟨(.some 18), .mv, [(.t 3)], none, 0, 0⟩,
    ⟨(.some 2), .mv, [(.t 18)], none, 0, 0⟩])
  .ret))))
def r30 : List ARes := [(.tmp 2)]
theorem ok30 : FnOk Try.prog 30 c30 r30 :=
  ⟨Try.f30, _, Try.func30, by kernel_rfl, rfl, by kernel_rfl, by kernel_rfl⟩
/-- rill/names.within -/
def c31 : ACode :=
  (.seq
  (.ops [0] [
    ⟨(.some 2), .mv, [(.c (.bool false))], none, 0, 0⟩])
  (.seq
  (.ops [2] [
    ⟨(.some 3), .mv, [(.t 0)], none, 0, 0⟩,
    ⟨(.some 4), (.cmp .geq), [(.t 3), (.c (.int .i64 0))], none, 0, 0⟩,
    ⟨(.some 5), .mv, [(.t 4)], none, 0, 0⟩,
    ⟨(.some 6), .mv, [(.t 0)], (.some (5, true)), 0, 0⟩,
    ⟨(.some 7), (.cmp .leq), [(.t 6), (.c (.int .i64 1099511627776))], (.some (5, true)), 0, 0⟩,
    ⟨(.some 8), .pick, [(.t 5), (.t 7), (.c (.bool false))], none, 0, 0⟩,
    ⟨(.some 2), .mv, [(.t 8)], none, 0, 0⟩])
  .ret))
def r31 : List ARes := [(.tmp 2)]
theorem ok31 : FnOk Try.prog 31 c31 r31 :=
  ⟨Try.f31, _, Try.func31, by kernel_rfl, rfl, by kernel_rfl, by kernel_rfl⟩
/-- slices.Concat[[]byte,byte] -/
def c32 : ACode :=
  (.seq
  (.ops [0] [
    ⟨(.some 2), .mv, [(.c .nils)], none, 0, 0⟩])
  (.seq
  (.ops [0, 3] [
    ⟨(.some 3), .mv, [(.c (.int .i64 0))], none, 0, 0⟩])
  (.seq
  (.seq
  (.ops [0, 3, 9, 10, 11] [
    ⟨(.some 9), .mv, [(.t 0)], none, 0, 0⟩,
    ⟨(.some 10), .len, [(.t 9)], none, 0, 0⟩,
    ⟨(.some 11), .mv, [(.c (.int .i64 0))], none, 0, 0⟩])
  (.block 0
    (.loop [0, 3, 9, 10, 11]
      (.seq
      (.ops [0, 3, 9, 10, 11, 12] [
        ⟨(.some 12), (.cmp .lss), [(.t 11), (.t 10)], none, 0, 0⟩])
      (.seq
      (.cond (.t 12)
        .skip
        (.exit 0))
      (.seq
      (.block 1
        (.seq
        (.ops [0, 3, 5, 9, 10, 11] [
          ⟨(.some 13), (.idxAddr 1), [(.t 9), (.t 11)], none, 0, 0⟩,
          ⟨(.some 14), (.load false 1), [(.t 13)], none, 0, 0⟩,
          ⟨(.some 5), .mv, [(.t 14)], none, 0, 0⟩])
        (.seq
        (.ops [0, 3, 9, 10, 11] [
          ⟨(.some 15), .mv, [(.t 3)], none, 0, 0⟩,
          ⟨(.some 16), .mv, [(.t 5)], none, 0, 0⟩,
          ⟨(.some 17), .len, [(.t 16)], none, 0, 0⟩,
          ⟨(.some 18), (.arith .add), [(.t 15), (.t 17)], none, 0, 0⟩,
          ⟨(.some 3), .mv, [(.t 18)], none, 0, 0⟩])
        (.seq
        (.ops [0, 3, 9, 10, 11, 20] [
          ⟨(.some 19), .mv, [(.t 3)], none, 0, 0⟩,
          ⟨(.some 20), (.cmp .lss), [(.t 19), (.c (.int .i64 0))], none, 0, 0⟩])
        (.cond (.t 20)
          (.ops [0, 3, 9, 10, 11] [
            ⟨(.some 21), (.iface 9), [(.c (.str ⟨#[108, 101, 110, 32, 111, 117, 116, 32, 111, 102, 32, 114, 97, 110, 103, 101]⟩))], none, 0, 0⟩,
            ⟨none, .no, [(.t 21)], none, 0, 0⟩])
          .skip)))))
      (.ops [0, 3, 9, 10, 11] [
        ⟨(.some 22), (.arith .add), [(.t 11), (.c (.int .i64 1))], none, 0, 0⟩,
        ⟨(.some 11), .mv, [(.t 22)], none, 0, 0⟩])))))))
  (.seq
  (.ops [0, 6] [
    ⟨(.some 23), .mv, [(.t 3)], none, 0, 0⟩,
    ⟨(.some 24), (.call 39), [(.c .nils), (.t 23)], none, 0, 0⟩,
    ⟨(.some 6), .mv, [(.t 24)], none, 0, 0⟩])
  (.seq
  (.seq
  (.ops [6, 25, 26, 27] [
    ⟨(.some 25), .mv, [(.t 0)], none, 0, 0⟩,
    ⟨(.some 26), .len, [(.t 25)], none, 0, 0⟩,
    ⟨(.some 27), .mv, [(.c (.int .i64 0))], none, 0, 0⟩])
  (.block 2
    (.loop [6, 25, 26, 27]
      (.seq
      (.ops [6, 25, 26, 27, 28] [
        ⟨(.some 28), (.cmp .lss), [(.t 27), (.t 26)], none, 0, 0⟩])
      (.seq
      (.cond (.t 28)
        .skip
        (.exit 2))
      (.seq
      (.block 3
        (.seq
        (.ops [6, 8, 25, 26, 27] [
          ⟨(.some 29), (.idxAddr 1), [(.t 25), (.t 27)], none, 0, 0⟩,
          ⟨(.some 30), (.load false 1), [(.t 29)], none, 0, 0⟩,
          ⟨(.some 8), .mv, [(.t 30)], none, 0, 0⟩])
        (.ops [6, 25, 26, 27] [
          ⟨(.some 31), .mv, [(.t 6)], none, 0, 0⟩,
          ⟨(.some 32), .mv, [(.t 8)], none, 0, 0⟩,
          ⟨(.some 33), (.append 1 1), [(.t 31), (.t 32)], none, 0, 0⟩,
          ⟨(.some 6), .mv, [(.t 33)], none, 0, 0⟩])))
      (.ops [6, 25, 26, 27] [
        ⟨(.some 34), (.arith .add), [(.t 27), (.c (.int .i64 1))], none, 0, 0⟩,
        ⟨(.some 27), .mv, [(.t 34)], none, 0, 0⟩])))))))
  (.seq
  (.ops [2] [
    ⟨(.some 35), .mv, [(.t 6)], none, 0, 0⟩,
    ⟨(.some 2), .mv, [(.t 35)], none, 0, 0⟩])
  .ret))))))
def r32 : List ARes := [(.tmp 2)]
theorem ok32 : FnOk Try.prog 32 c32 r32 :=
  ⟨Try.f32, _, Try.func32, by kernel_rfl, rfl, by kernel_rfl, by kernel_rfl⟩
/-- rill/names.number -/
def c33 : ACode :=
  (.seq
  (.ops [0] [
    ⟨(.some 2), .mv, [(.c .nils)], none, 0, 0⟩])
  (.seq
  (.ops [0, 3] [
    ⟨(.some 5), (.mkSlice [(.int .u8 0)] 1), [(.c (.int .i64 8)), (.c (.int .i64 8))], none, 0, 0⟩,
    ⟨(.some 3), .mv, [(.t 5)], none, 0, 0⟩])
  (.seq
  (.seq
  (.ops [0, 3, 7, 8] [
    ⟨(.some 6), .mv, [(.t 3)], none, 0, 0⟩,
    ⟨(.some 7), .len, [(.t 6)], none, 0, 0⟩,
    ⟨(.some 8), .mv, [(.c (.int .i64 0))], none, 0, 0⟩])
  (.block 0
    (.loop [0, 3, 7, 8]
      (.seq
      (.ops [0, 3, 7, 8, 9] [
        ⟨(.some 9), (.cmp .lss), [(.t 8), (.t 7)], none, 0, 0⟩])
      (.seq
      (.cond (.t 9)
        .skip
        (.exit 0))
      (.seq
      (.block 1
        (.seq
        (.ops [0, 3, 4, 7, 8] [
          ⟨(.some 10), .mv, [(.t 8)], none, 0, 0⟩,
          ⟨(.some 4), .mv, [(.t 10)], none, 0, 0⟩])
        (.ops [0, 3, 7, 8] [
          ⟨(.some 11), .mv, [(.t 3)], none, 0, 0⟩,
          ⟨(.some 12), .mv, [(.t 4)], none, 0, 0⟩,
          ⟨(.some 13), .mv, [(.t 0)], none, 0, 0⟩,
          ⟨(.some 14), (.conv .u64), [(.t 13)], none, 0, 0⟩,
          ⟨(.some 15), .mv, [(.t 4)], none, 0, 0⟩,
          ⟨(.some 16), (.arith .sub), [(.c (.int .i64 7)), (.t 15)], none, 0, 0⟩,
          ⟨(.some 17), (.arith .mul), [(.c (.int .i64 8)), (.t 16)], none, 0, 0⟩,
          ⟨(.some 18), (.shift .shr), [(.t 14), (.t 17)], none, 0, 0⟩,
          ⟨(.some 19), (.conv .u8), [(.t 18)], none, 0, 0⟩,
          ⟨(.some 20), (.idxAddr 1), [(.t 11), (.t 12)], none, 0, 0⟩,
          ⟨none, (.store 1), [(.t 20), (.t 19)], none, 0, 0⟩])))
      (.ops [0, 3, 7, 8] [
        ⟨(.some 21), (.arith .add), [(.t 8), (.c (.int .i64 1))], none, 0, 0⟩,
        ⟨(.some 8), .mv, [(.t 21)], none, 0, 0⟩])))))))
  (.seq
  (.ops [2] [
    ⟨(.some 22), .mv, [(.t 3)], none, 0, 0⟩,
    ⟨(.some 2), .mv, [(.t 22)], none, 0, 0⟩])
  .ret))))
def r33 : List ARes := [(.tmp 2)]
theorem ok33 : FnOk Try.prog 33 c33 r33 :=
  ⟨Try.f33, _, Try.func33, by kernel_rfl, rfl, by kernel_rfl, by kernel_rfl⟩
/-- (*rill/rillref06.Names).place -/
def c34 : ACode :=
  (.seq
  (.ops [0, 3] [
    ⟨(.some 3), .box, [(.t 1)], none, 0, 0⟩,
    ⟨(.some 4), .mv, [(.c (.int .i64 0))], none, 0, 0⟩])
  (.seq
  (.seq
  (.ops [0, 3, 5] [
    ⟨(.some 5), .mv, [(.c (.int .i64 0))], none, 0, 0⟩])
  (.block 0
    (.loop [0, 3, 5]
      (.seq
      (.seq
      (.ops [0, 3, 5, 13] [
        ⟨(.some 7), .mv, [(.t 5)], none, 0, 0⟩,
        ⟨(.some 8), .mv, [(.t 0)], none, 0, 0⟩,
        ⟨(.some 9), .nilCheck, [(.t 8)], none, 0, 0⟩,
        ⟨(.some 10), (.fieldAddr 0), [(.t 9)], none, 0, 0⟩,
        ⟨(.some 11), (.load false 1), [(.t 10)], none, 0, 0⟩,
        ⟨(.some 12), .len, [(.t 11)], none, 0, 0⟩,
        ⟨(.some 13), (.cmp .lss), [(.t 7), (.t 12)], none, 0, 0⟩])
      (.cond (.t 13)
        .skip
        (.exit 0)))
      (.seq
      (.block 1
        (.seq
        (.ops [0, 3, 5, 6] [
          ⟨(.some 16), .mv, [(.t 0)], none, 0, 0⟩,
          ⟨(.some 17), .nilCheck, [(.t 16)], none, 0, 0⟩,
          ⟨(.some 18), (.fieldAddr 0), [(.t 17)], none, 0, 0⟩,
          ⟨(.some 19), (.load false 1), [(.t 18)], none, 0, 0⟩,
          ⟨(.some 20), .mv, [(.t 5)], none, 0, 0⟩,
          ⟨(.some 21), (.idxAddr 4), [(.t 19), (.t 20)], none, 0, 0⟩,
          ⟨(.some 22), (.load true 4), [(.t 21)], none, 0, 0⟩,
          ⟨(.some 6), (.alloc [(.int .i64 0), (.int .i64 0), .nils, .nils]), [], none, 0, 0⟩,
          ⟨none, (.store 4), [(.t 6), (.t 22)], none, 0, 0⟩])
        (.seq
        (.ops [0, 3, 5, 48] [
          ⟨(.some 23), (.fieldAddr 0), [(.t 6)], none, 0, 0⟩,
          ⟨(.some 24), (.load false 1), [(.t 23)], none, 0, 0⟩,
          ⟨(.some 25), (.fieldAddr 0), [(.t 3)], none, 0, 0⟩,
          ⟨(.some 26), (.load false 1), [(.t 25)], none, 0, 0⟩,
          ⟨(.some 27), (.eq false .int), [(.t 24), (.t 26)], none, 0, 0⟩,
          ⟨(.some 28), .mv, [(.t 27)], none, 0, 0⟩,
          ⟨(.some 29), (.fieldAddr 1), [(.t 6)], (.some (28, true)), 0, 0⟩,
          ⟨(.some 30), (.load false 1), [(.t 29)], (.some (28, true)), 0, 0⟩,
          ⟨(.some 31), (.fieldAddr 1), [(.t 3)], (.some (28, true)), 0, 0⟩,
          ⟨(.some 32), (.load false 1), [(.t 31)], (.some (28, true)), 0, 0⟩,
          ⟨(.some 33), (.eq false .int), [(.t 30), (.t 32)], (.some (28, true)), 0, 0⟩,
          ⟨(.some 34), .pick, [(.t 28), (.t 33), (.c (.bool false))], none, 0, 0⟩,
          ⟨(.some 35), .mv, [(.t 34)], none, 0, 0⟩,
          ⟨(.some 36), (.fieldAddr 2), [(.t 6)], (.some (35, true)), 0, 0⟩,
          ⟨(.some 37), (.load false 1), [(.t 36)], (.some (35, true)), 0, 0⟩,
          ⟨(.some 38), (.fieldAddr 2), [(.t 3)], (.some (35, true)), 0, 0⟩,
          ⟨(.some 39), (.load false 1), [(.t 38)], (.some (35, true)), 0, 0⟩,
          ⟨(.some 40), (.call 18), [(.t 37), (.t 39)], (.some (35, true)), 0, 0⟩,
          ⟨(.some 41), .pick, [(.t 35), (.t 40), (.c (.bool false))], none, 0, 0⟩,
          ⟨(.some 42), .mv, [(.t 41)], none, 0, 0⟩,
          ⟨(.some 43), (.fieldAddr 3), [(.t 6)], (.some (42, true)), 0, 0⟩,
          ⟨(.some 44), (.load false 1), [(.t 43)], (.some (42, true)), 0, 0⟩,
          ⟨(.some 45), (.fieldAddr 3), [(.t 3)], (.some (42, true)), 0, 0⟩,
          ⟨(.some 46), (.load false 1), [(.t 45)], (.some (42, true)), 0, 0⟩,
          ⟨(.some 47), (.call 18), [(.t 44), (.t 46)], (.some (42, true)), 0, 0⟩,
          ⟨(.some 48), .pick, [(.t 42), (.t 47), (.c (.bool false))], none, 0, 0⟩])
        (.cond (.t 48)
          (.seq
          (.ops [4] [
            ⟨(.some 49), .mv, [(.t 5)], none, 0, 0⟩,
            ⟨(.some 50), (.arith .add), [(.t 49), (.c (.int .i64 1))], none, 0, 0⟩,
            ⟨(.some 4), .mv, [(.t 50)], none, 0, 0⟩])
          .ret)
          .skip))))
      (.ops [0, 3, 5] [
        ⟨(.some 14), .mv, [(.t 5)], none, 0, 0⟩,
        ⟨(.some 15), (.arith .add), [(.t 14), (.c (.int .i64 1))], none, 0, 0⟩,
        ⟨(.some 5), .mv, [(.t 15)], none, 0, 0⟩]))))))
  (.seq
  (.ops [4] [
    ⟨(.some 4), .mv, [(.c (.int .i64 0))], none, 0, 0⟩])
  .ret)))
def r34 : List ARes := [(.tmp 4)]
theorem ok34 : FnOk Try.prog 34 c34 r34 :=
  ⟨Try.f34, _, Try.func34, by kernel_rfl, rfl, by kernel_rfl, by kernel_rfl⟩
/-- rill/rillref06.tag -/
def c35 : ACode :=
  (.seq
  (.ops [0] [
    ⟨(.some 2), .mv, [(.c .nils)], none, 0, 0⟩])
  (.seq
  (.ops [0, 3] [
    ⟨(.some 6), (.mkSlice [(.int .u8 0)] 1), [(.c (.int .i64 24)), (.c (.int .i64 24))], none, 0, 0⟩,
    ⟨(.some 3), .mv, [(.t 6)], none, 0, 0⟩])
  (.seq
  (.ops [3, 4] [
    ⟨(.some 7), .mv, [(.t 0)], none, 0, 0⟩,
    ⟨(.some 8), (.call 38), [(.t 7)], none, 0, 0⟩,
    ⟨(.some 4), .mv, [(.t 8)], none, 0, 0⟩])
  (.seq
  (.seq
  (.ops [3, 4, 5] [
    ⟨(.some 5), .mv, [(.c (.int .i64 0))], none, 0, 0⟩])
  (.block 0
    (.loop [3, 4, 5]
      (.seq
      (.seq
      (.ops [3, 4, 5, 10] [
        ⟨(.some 9), .mv, [(.t 5)], none, 0, 0⟩,
        ⟨(.some 10), (.cmp .lss), [(.t 9), (.c (.int .i64 8))], none, 0, 0⟩])
      (.cond (.t 10)
        .skip
        (.exit 0)))
      (.seq
      (.block 1
        (.ops [3, 4, 5] [
          ⟨(.some 13), .mv, [(.t 3)], none, 0, 0⟩,
          ⟨(.some 14), .mv, [(.t 4)], none, 0, 0⟩,
          ⟨(.some 15), .mv, [(.t 5)], none, 0, 0⟩,
          ⟨(.some 16), (.idxAddr 1), [(.t 14), (.t 15)], none, 0, 0⟩,
          ⟨(.some 17), (.load false 1), [(.t 16)], none, 0, 0⟩,
          ⟨(.some 18), (.mkSl 1 [(.int .u8 0)] [(0, 1)]), [(.t 17)], none, 0, 0⟩,
          ⟨(.some 19), (.append 1 1), [(.t 13), (.t 18)], none, 0, 0⟩,
          ⟨(.some 3), .mv, [(.t 19)], none, 0, 0⟩]))
      (.ops [3, 4, 5] [
        ⟨(.some 11), .mv, [(.t 5)], none, 0, 0⟩,
        ⟨(.some 12), (.arith .add), [(.t 11), (.c (.int .i64 1))], none, 0, 0⟩,
        ⟨(.some 5), .mv, [(.t 12)], none, 0, 0⟩]))))))
  (.seq
  (.ops [2] [
    ⟨(.some 20), .mv, [(.t 3)], none, 0, 0⟩,
    ⟨(.some 2), .mv, [(.t 20)], none, 0, 0⟩])
  .ret)))))
def r35 : List ARes := [(.tmp 2)]
theorem ok35 : FnOk Try.prog 35 c35 r35 :=
  ⟨Try.f35, _, Try.func35, by kernel_rfl, rfl, by kernel_rfl, by kernel_rfl⟩
/-- slices.Equal[[]byte,byte] -/
def c36 : ACode :=
  (.seq
  (.ops [0, 1] [
    ⟨(.some 4), .mv, [(.c (.bool false))], none, 0, 0⟩])
  (.seq
  (.seq
  (.ops [0, 1, 10] [
    ⟨(.some 6), .mv, [(.t 0)], none, 0, 0⟩,
    ⟨(.some 7), .len, [(.t 6)], none, 0, 0⟩,
    ⟨(.some 8), .mv, [(.t 1)], none, 0, 0⟩,
    ⟨(.some 9), .len, [(.t 8)], none, 0, 0⟩,
    ⟨(.some 10), (.eq true .int), [(.t 7), (.t 9)], none, 0, 0⟩])
  (.cond (.t 10)
    (.seq
    (.ops [4] [
      ⟨(.some 4), .mv, [(.c (.bool false))], none, 0, 0⟩])
    .ret)
    .skip))
  (.seq
  (.seq
  (.ops [0, 1, 12, 13] [
    ⟨(.some 11), .mv, [(.t 0)], none, 0, 0⟩,
    ⟨(.some 12), .len, [(.t 11)], none, 0, 0⟩,
    ⟨(.some 13), .mv, [(.c (.int .i64 0))], none, 0, 0⟩])
  (.block 0
    (.loop [0, 1, 12, 13]
      (.seq
      (.ops [0, 1, 12, 13, 14] [
        ⟨(.some 14), (.cmp .lss), [(.t 13), (.t 12)], none, 0, 0⟩])
      (.seq
      (.cond (.t 14)
        .skip
        (.exit 0))
      (.seq
      (.block 1
        (.seq
        (.ops [0, 1, 5, 12, 13] [
          ⟨(.some 15), .mv, [(.t 13)], none, 0, 0⟩,
          ⟨(.some 5), .mv, [(.t 15)], none, 0, 0⟩])
        (.seq
        (.drawn [0, 1, 12, 13, 24] [
          ⟨(.some 16), .mv, [(.t 0)], none, 0, 0⟩,
          ⟨(.some 17), .mv, [(.t 5)], none, 0, 0⟩,
          ⟨(.some 18), (.idxAddr 1), [(.t 16), (.t 17)], none, 0, 0⟩,
          ⟨(.some 19), (.load false 1), [(.t 18)], none, 0, 0⟩,
          ⟨(.some 20), .mv, [(.t 1)], none, 0, 0⟩,
          ⟨(.some 21), .mv, [(.t 5)], none, 0, 0⟩,
          ⟨(.some 22), (.idxAddr 1), [(.t 20), (.t 21)], none, 0, 0⟩,
          ⟨(.some 23), (.load false 1), [(.t 22)], none, 0, 0⟩,
          ⟨(.some 24), (.eq true .int), [(.t 19), (.t 23)], none, 0, 0⟩])
        (.cond (.t 24)
          (.seq
          (.ops [4] [
            ⟨(.some 4), .mv, [(.c (.bool false))], none, 0, 0⟩])
          .ret)
          .skip))))
      (.ops [0, 1, 12, 13] [
        ⟨(.some 25), (.arith .add), [(.t 13), (.c (.int .i64 1))], none, 0, 0⟩,
        ⟨(.some 13), .mv, [(.t 25)], none, 0, 0⟩])))))))
  (.seq
  (.ops [4] [
    ⟨(.some 4), .mv, [(.c (.bool true))], none, 0, 0⟩])
  .ret))))
def r36 : List ARes := [(.tmp 4)]
theorem ok36 : FnOk Try.prog 36 c36 r36 :=
  ⟨Try.f36, _, Try.func36, by kernel_rfl, rfl, by kernel_rfl, by kernel_rfl⟩
/-- slices.Clone[[]byte,byte] -/
def c37 : ACode :=
  (.seq
  (.ops [0] [
    ⟨(.some 2), .mv, [(.c .nils)], none, 0, 0⟩])
  (.seq
  (.seq
  (.ops [0, 4] [
    ⟨(.some 3), .mv, [(.t 0)], none, 0, 0⟩,
    ⟨(.some 4), (.eq false .slice), [(.t 3), (.c .nils)], none, 0, 0⟩])
  (.cond (.t 4)
    (.seq
    (.ops [2] [
      ⟨(.some 2), .mv, [(.c .nils)], none, 0, 0⟩])
    .ret)
    .skip))
  (.seq
  (.ops [2] [
    ⟨(.some 5), (.mkSl 0 [] []), [], none, 0, 0⟩,
    ⟨(.some 6), .mv, [(.t 0)], none, 0, 0⟩,
    ⟨(.some 7), (.append 1 1), [(.t 5), (.t 6)], none, 0, 0⟩,
    ⟨(.some 2), .mv, [(.t 7)], none, 0, 0⟩])
  .ret)))
def r37 : List ARes := [(.tmp 2)]
theorem ok37 : FnOk Try.prog 37 c37 r37 :=
  ⟨Try.f37, _, Try.func37, by kernel_rfl, rfl, by kernel_rfl, by kernel_rfl⟩
/-- rill/rillref06.eight -/
def c38 : ACode :=
  (.seq
  (.ops [0] [
    ⟨(.some 2), .mv, [(.c .nils)], none, 0, 0⟩])
  (.seq
  (.ops [0, 3] [
    ⟨(.some 3), .mv, [(.c .nils)], none, 0, 0⟩])
  (.seq
  (.seq
  (.ops [0, 3, 4] [
    ⟨(.some 4), .mv, [(.c (.int .i64 7))], none, 0, 0⟩])
  (.block 0
    (.loop [0, 3, 4]
      (.seq
      (.seq
      (.ops [0, 3, 4, 6] [
        ⟨(.some 5), .mv, [(.t 4)], none, 0, 0⟩,
        ⟨(.some 6), (.cmp .geq), [(.t 5), (.c (.int .i64 0))], none, 0, 0⟩])
      (.cond (.t 6)
        .skip
        (.exit 0)))
      (.seq
      (.block 1
        (.ops [0, 3, 4] [
          ⟨(.some 9), .mv, [(.t 3)], none, 0, 0⟩,
          ⟨(.some 10), .mv, [(.t 0)], none, 0, 0⟩,
          ⟨(.some 11), .mv, [(.t 4)], none, 0, 0⟩,
          ⟨(.some 12), (.arith .mul), [(.c (.int .i64 8)), (.t 11)], none, 0, 0⟩,
          ⟨(.some 13), (.conv .u64), [(.t 12)], none, 0, 0⟩,
          ⟨(.some 14), (.shift .shr), [(.t 10), (.t 13)], none, 0, 0⟩,
          ⟨(.some 15), (.conv .u8), [(.t 14)], none, 0, 0⟩,
          ⟨(.some 16), (.mkSl 1 [(.int .u8 0)] [(0, 1)]), [(.t 15)], none, 0, 0⟩,
          ⟨(.some 17), (.append 1 1), [(.t 9), (.t 16)], none, 0, 0⟩,
          ⟨(.some 3), .mv, [(.t 17)], none, 0, 0⟩]))
      (.ops [0, 3, 4] [
        ⟨(.some 7), .mv, [(.t 4)], none, 0, 0⟩,
        ⟨(.some 8), (.arith .sub), [(.t 7), (.c (.int .i64 1))], none, 0, 0⟩,
        ⟨(.some 4), .mv, [(.t 8)], none, 0, 0⟩]))))))
  (.seq
  (.ops [2] [
    ⟨(.some 18), .mv, [(.t 3)], none, 0, 0⟩,
    ⟨(.some 2), .mv, [(.t 18)], none, 0, 0⟩])
  .ret))))
def r38 : List ARes := [(.tmp 2)]
theorem ok38 : FnOk Try.prog 38 c38 r38 :=
  ⟨Try.f38, _, Try.func38, by kernel_rfl, rfl, by kernel_rfl, by kernel_rfl⟩
/-- slices.Grow[[]byte,byte] -/
def c39 : ACode :=
  (.seq
  (.ops [0, 1] [
    ⟨(.some 4), .mv, [(.c .nils)], none, 0, 0⟩])
  (.seq
  (.seq
  (.ops [0, 1, 6] [
    ⟨(.some 5), .mv, [(.t 1)], none, 0, 0⟩,
    ⟨(.some 6), (.cmp .lss), [(.t 5), (.c (.int .i64 0))], none, 0, 0⟩])
  (.cond (.t 6)
    (.ops [0, 1] [
      ⟨(.some 7), (.iface 9), [(.c (.str ⟨#[99, 97, 110, 110, 111, 116, 32, 98, 101, 32, 110, 101, 103, 97, 116, 105, 118, 101]⟩))], none, 0, 0⟩,
      ⟨none, .no, [(.t 7)], none, 0, 0⟩])
    .skip))
  (.seq
  (.seq
  (.ops [0, 1] [
    ⟨(.some 8), .mv, [(.t 1)], none, 0, 0⟩,
    ⟨(.some 9), .mv, [(.t 0)], none, 0, 0⟩,
    ⟨(.some 10), .cap, [(.t 9)], none, 0, 0⟩,
    ⟨(.some 11), .mv, [(.t 0)], none, 0, 0⟩,
    ⟨(.some 12), .len, [(.t 11)], none, 0, 0⟩,
    ⟨(.some 13), (.arith .sub), [(.t 10), (.t 12)], none, 0, 0⟩,
    ⟨(.some 14), (.arith .sub), [(.t 8), (.t 13)], none, 0, 0⟩,
    ⟨(.some 1), .mv, [(.t 14)], none, 0, 0⟩])
  (.seq
  (.ops [0, 1, 16] [
    ⟨(.some 15), .mv, [(.t 1)], none, 0, 0⟩,
    ⟨(.some 16), (.cmp .gtr), [(.t 15), (.c (.int .i64 0))], none, 0, 0⟩])
  (.cond (.t 16)
    (.ops [0] [
      ⟨(.some 17), .mv, [(.t 0)], none, 0, 0⟩,
      ⟨(.some 18), .mv, [(.t 0)], none, 0, 0⟩,
      ⟨(.some 19), .cap, [(.t 18)], none, 0, 0⟩,
      ⟨(.some 20), (.slice 1 false true false), [(.t 17), (.t 19)], none, 0, 0⟩,
      ⟨(.some 21), .mv, [(.t 1)], none, 0, 0⟩,
      ⟨(.some 22), (.appendZ [(.int .u8 0)] 1), [(.t 20), (.t 21)], none, 0, 0⟩,
      ⟨(.some 23), .mv, [(.t 0)], none, 0, 0⟩,
      ⟨(.some 24), .len, [(.t 23)], none, 0, 0⟩,
      ⟨(.some 25), (.slice 1 false true false), [(.t 22), (.t 24)], none, 0, 0⟩,
      ⟨(.some 0), .mv, [(.t 25)], none, 0, 0⟩])
    .skip)))
  (.seq
  (.ops [4] [
    ⟨(.some 26), .mv, [(.t 0)], none, 0, 0⟩,
    ⟨(.some 4), .mv, [(.t 26)], none, 0, 0⟩])
  .ret))))
def r39 : List ARes := [(.tmp 4)]
theorem ok39 : FnOk Try.prog 39 c39 r39 :=
  ⟨Try.f39, _, Try.func39, by kernel_rfl, rfl, by kernel_rfl, by kernel_rfl⟩
end Go.Proofs.Ytodkgembfcddbaa
end
section
/- Parts of the abstract code, under names of their own: if-statements, and what is behind them (printed by gencode.py). -/
namespace Go.Proofs.Ytodkgembfcddbaa
open Go.Adm
/-- rill/rilllaw06.NamesRuns -/
def d3_16 : ACode :=
  (.seq
  (.ops [0, 3, 4, 5, 6, 10] [
    ⟨(.some 163), .mv, [(.t 9)], none, 0, 0⟩,
    ⟨(.some 164), (.call 19), [(.t 163)], none, 0, 0⟩])
  (.ops [0, 3, 4, 5, 6] [
    ⟨(.some 165), .mv, [(.t 10)], none, 0, 0⟩,
    ⟨(.some 166), (.call 19), [(.t 165)], none, 0, 0⟩]))
def d3_15 : ACode :=
  (.seq
  (.ops [0, 3, 4, 5, 6, 9, 10, 162] [
    ⟨(.some 152), .mv, [(.t 9)], none, 0, 0⟩,
    ⟨(.some 153), (.fieldAddr 4), [(.t 7)], none, 0, 0⟩,
    ⟨(.some 154), (.load false 1), [(.t 153)], none, 0, 0⟩,
    ⟨(.some 155), (.call 24), [(.t 152), (.t 154)], none, 0, 0⟩,
    ⟨(.some 156), .not, [(.t 155)], none, 0, 0⟩,
    ⟨(.some 157), .mv, [(.t 156)], none, 0, 0⟩,
    ⟨(.some 158), .mv, [(.t 10)], (.some (157, false)), 0, 0⟩,
    ⟨(.some 159), .mv, [(.t 8)], (.some (157, false)), 0, 0⟩,
    ⟨(.some 160), (.call 24), [(.t 158), (.t 159)], (.some (157, false)), 0, 0⟩,
    ⟨(.some 161), .not, [(.t 160)], (.some (157, false)), 0, 0⟩,
    ⟨(.some 162), .pick, [(.t 157), (.c (.bool true)), (.t 161)], none, 0, 0⟩])
  (.cond (.t 162)
    (.seq
    (.ops [2] [
      ⟨(.some 2), .mv, [(.c (.bool false))], none, 0, 0⟩])
    .ret)
    .skip))
def d3_14 : ACode :=
  (.ops [0, 3, 4, 5, 6, 7, 8, 9, 10] [
    ⟨(.some 138), .mv, [(.t 13)], none, 0, 0⟩,
    ⟨(.some 139), (.call 19), [(.t 138)], none, 0, 0⟩])
def d3_13 : ACode :=
  (.seq
  (.ops [0, 3, 4, 5, 6, 7, 8, 9, 10, 13, 137] [
    ⟨(.some 129), .mv, [(.t 14)], none, 0, 0⟩,
    ⟨(.some 130), .mv, [(.t 16)], none, 0, 0⟩,
    ⟨(.some 131), (.eq true .bool), [(.t 129), (.t 130)], none, 0, 0⟩,
    ⟨(.some 132), .mv, [(.t 131)], none, 0, 0⟩,
    ⟨(.some 133), .mv, [(.t 13)], (.some (132, false)), 0, 0⟩,
    ⟨(.some 134), .mv, [(.t 15)], (.some (132, false)), 0, 0⟩,
    ⟨(.some 135), (.call 18), [(.t 133), (.t 134)], (.some (132, false)), 0, 0⟩,
    ⟨(.some 136), .not, [(.t 135)], (.some (132, false)), 0, 0⟩,
    ⟨(.some 137), .pick, [(.t 132), (.c (.bool true)), (.t 136)], none, 0, 0⟩])
  (.cond (.t 137)
    (.seq
    (.ops [2] [
      ⟨(.some 2), .mv, [(.c (.bool false))], none, 0, 0⟩])
    .ret)
    .skip))
def d3_12 : ACode :=
  (.cond (.t 96)
    (.seq
    (.drawn [0, 3, 4, 5, 6, 7, 8, 9, 10, 13, 14] [
      ⟨(.some 100), .mv, [(.t 3)], none, 0, 0⟩,
      ⟨(.some 101), (.fieldAddr 1), [(.t 7)], none, 0, 0⟩,
      ⟨(.some 102), (.load false 1), [(.t 101)], none, 0, 0⟩,
      ⟨(.some 103), (.fieldAddr 2), [(.t 7)], none, 0, 0⟩,
      ⟨(.some 104), (.load false 1), [(.t 103)], none, 0, 0⟩,
      ⟨(.some 105), .mv, [(.t 9)], none, 0, 0⟩,
      ⟨(.some 106), (.fieldAddr 4), [(.t 7)], none, 0, 0⟩,
      ⟨(.some 107), (.load false 1), [(.t 106)], none, 0, 0⟩,
      ⟨(.some 108), .len, [(.t 107)], none, 0, 0⟩,
      ⟨(.some 109), (.slice 1 false true false), [(.t 105), (.t 108)], none, 0, 0⟩,
      ⟨(.some 110), .mv, [(.t 10)], none, 0, 0⟩,
      ⟨(.some 111), .mv, [(.t 8)], none, 0, 0⟩,
      ⟨(.some 112), .len, [(.t 111)], none, 0, 0⟩,
      ⟨(.some 113), (.slice 1 false true false), [(.t 110), (.t 112)], none, 0, 0⟩,
      ⟨(.some 114), (.call 20), [(.t 100), (.t 102), (.t 104), (.t 109), (.t 113)], none, 0, 1⟩,
      ⟨(.some 99), .mv, [(.t 114)], none, 1, 1⟩,
      ⟨(.some 115), (.extract 0), [(.t 99)], none, 1, 1⟩,
      ⟨(.some 116), (.extract 1), [(.t 99)], none, 1, 1⟩,
      ⟨(.some 13), .mv, [(.t 115)], none, 1, 1⟩,
      ⟨(.some 14), .mv, [(.t 116)], none, 1, 1⟩])
    (.seq
    (.ops [0, 3, 4, 5, 6, 7, 8, 9, 10, 13, 14, 15, 16] [
      ⟨(.some 118), .mv, [(.t 4)], none, 0, 0⟩,
      ⟨(.some 119), (.fieldAddr 1), [(.t 7)], none, 0, 0⟩,
      ⟨(.some 120), (.load false 1), [(.t 119)], none, 0, 0⟩,
      ⟨(.some 121), (.fieldAddr 2), [(.t 7)], none, 0, 0⟩,
      ⟨(.some 122), (.load false 1), [(.t 121)], none, 0, 0⟩,
      ⟨(.some 123), (.fieldAddr 4), [(.t 7)], none, 0, 0⟩,
      ⟨(.some 124), (.load false 1), [(.t 123)], none, 0, 0⟩,
      ⟨(.some 125), .mv, [(.t 8)], none, 0, 0⟩,
      ⟨(.some 126), (.call 21), [(.t 118), (.t 120), (.t 122), (.t 124), (.t 125)], none, 0, 0⟩,
      ⟨(.some 117), .mv, [(.t 126)], none, 0, 0⟩,
      ⟨(.some 127), (.extract 0), [(.t 117)], none, 0, 0⟩,
      ⟨(.some 128), (.extract 1), [(.t 117)], none, 0, 0⟩,
      ⟨(.some 15), .mv, [(.t 127)], none, 0, 0⟩,
      ⟨(.some 16), .mv, [(.t 128)], none, 0, 0⟩])
    (.seq d3_13 d3_14)))
    (.seq
    (.ops [0, 3, 4, 5, 6, 7, 8, 9, 10, 140] [
      ⟨(.some 141), (.eq false .int), [(.t 59), (.c (.int .i64 2))], none, 0, 0⟩,
      ⟨(.some 140), .mv, [(.t 141)], none, 0, 0⟩])
    (.cond (.t 140)
      (.seq
      (.ops [0, 3, 4, 5, 6, 7, 8, 9, 10, 151] [
        ⟨(.some 142), .mv, [(.t 3)], none, 0, 0⟩,
        ⟨(.some 143), .mv, [(.t 10)], none, 0, 0⟩,
        ⟨(.some 144), .mv, [(.t 8)], none, 0, 0⟩,
        ⟨(.some 145), .len, [(.t 144)], none, 0, 0⟩,
        ⟨(.some 146), (.slice 1 false true false), [(.t 143), (.t 145)], none, 0, 0⟩,
        ⟨(.some 147), (.call 22), [(.t 142), (.t 146)], none, 0, 0⟩,
        ⟨(.some 148), .mv, [(.t 4)], none, 0, 0⟩,
        ⟨(.some 149), .mv, [(.t 8)], none, 0, 0⟩,
        ⟨(.some 150), (.call 23), [(.t 148), (.t 149)], none, 0, 0⟩,
        ⟨(.some 151), (.eqAgg true (List.replicate 32 .i)), [(.t 147), (.t 150)], none, 0, 0⟩])
      (.cond (.t 151)
        (.seq
        (.ops [2] [
          ⟨(.some 2), .mv, [(.c (.bool false))], none, 0, 0⟩])
        .ret)
        .skip))
      .skip)))
def d3_11 : ACode :=
  (.seq
  (.ops [0, 3, 4, 5, 6, 7, 8, 9, 10, 59, 96] [
    ⟨(.some 97), (.eq false .int), [(.t 59), (.c (.int .i64 1))], none, 0, 0⟩,
    ⟨(.some 96), .mv, [(.t 97)], none, 0, 0⟩])
  (.cond (.t 96)
    .skip
    (.ops [0, 3, 4, 5, 6, 7, 8, 9, 10, 59, 96] [
      ⟨(.some 98), (.eq false .int), [(.t 59), (.c (.int .i64 3))], none, 0, 0⟩,
      ⟨(.some 96), .mv, [(.t 98)], none, 0, 0⟩])))
def d3_10 : ACode :=
  (.seq
  (.ops [0, 3, 4, 5, 6, 7, 8, 9, 10, 11] [
    ⟨(.some 90), .mv, [(.t 5)], none, 0, 0⟩,
    ⟨(.some 91), .mv, [(.t 12)], none, 0, 0⟩,
    ⟨(.some 92), (.mkSl 1 [.nils] [(0, 1)]), [(.t 91)], none, 0, 0⟩,
    ⟨(.some 93), (.append 1 24), [(.t 90), (.t 92)], none, 0, 0⟩,
    ⟨(.some 5), .mv, [(.t 93)], none, 0, 0⟩])
  (.ops [0, 3, 4, 5, 6, 7, 8, 9, 10] [
    ⟨(.some 94), .mv, [(.t 11)], none, 0, 0⟩,
    ⟨(.some 95), (.call 19), [(.t 94)], none, 0, 0⟩]))
def d3_9 : ACode :=
  (.seq
  (.ops [0, 3, 4, 5, 6, 7, 8, 9, 10, 11, 12, 89] [
    ⟨(.some 86), .mv, [(.t 11)], none, 0, 0⟩,
    ⟨(.some 87), .mv, [(.t 12)], none, 0, 0⟩,
    ⟨(.some 88), (.call 18), [(.t 86), (.t 87)], none, 0, 0⟩,
    ⟨(.some 89), .not, [(.t 88)], none, 0, 0⟩])
  (.cond (.t 89)
    (.seq
    (.ops [2] [
      ⟨(.some 2), .mv, [(.c (.bool false))], none, 0, 0⟩])
    .ret)
    .skip))
def d3_8 : ACode :=
  (.seq
  (.ops [0, 3, 4, 5, 6, 7, 8, 9] [
    ⟨(.some 53), (.fieldAddr 4), [(.t 7)], none, 0, 0⟩,
    ⟨(.some 54), (.load false 1), [(.t 53)], none, 0, 0⟩,
    ⟨(.some 55), (.call 15), [(.t 54)], none, 0, 0⟩,
    ⟨(.some 9), .mv, [(.t 55)], none, 0, 0⟩])
  (.seq
  (.ops [0, 3, 4, 5, 6, 7, 8, 9, 10] [
    ⟨(.some 56), .mv, [(.t 8)], none, 0, 0⟩,
    ⟨(.some 57), (.call 15), [(.t 56)], none, 0, 0⟩,
    ⟨(.some 10), .mv, [(.t 57)], none, 0, 0⟩])
  (.seq
  (.seq
  (.ops [0, 3, 4, 5, 6, 7, 8, 9, 10, 59] [
    ⟨(.some 58), (.fieldAddr 0), [(.t 7)], none, 0, 0⟩,
    ⟨(.some 59), (.load false 1), [(.t 58)], none, 0, 0⟩])
  (.block 2
    (.seq
    (.ops [0, 3, 4, 5, 6, 7, 8, 9, 10, 59, 60] [
      ⟨(.some 61), (.eq false .int), [(.t 59), (.c (.int .i64 0))], none, 0, 0⟩,
      ⟨(.some 60), .mv, [(.t 61)], none, 0, 0⟩])
    (.cond (.t 60)
      (.seq
      (.drawn [0, 3, 4, 5, 6, 7, 8, 9, 10, 11] [
        ⟨(.some 62), .mv, [(.t 3)], none, 0, 0⟩,
        ⟨(.some 63), (.fieldAddr 1), [(.t 7)], none, 0, 0⟩,
        ⟨(.some 64), (.load false 1), [(.t 63)], none, 0, 0⟩,
        ⟨(.some 65), (.fieldAddr 2), [(.t 7)], none, 0, 0⟩,
        ⟨(.some 66), (.load false 1), [(.t 65)], none, 0, 0⟩,
        ⟨(.some 67), .mv, [(.t 9)], none, 0, 0⟩,
        ⟨(.some 68), (.fieldAddr 4), [(.t 7)], none, 0, 0⟩,
        ⟨(.some 69), (.load false 1), [(.t 68)], none, 0, 0⟩,
        ⟨(.some 70), .len, [(.t 69)], none, 0, 0⟩,
        ⟨(.some 71), (.slice 1 false true false), [(.t 67), (.t 70)], none, 0, 0⟩,
        ⟨(.some 72), .mv, [(.t 10)], none, 0, 0⟩,
        ⟨(.some 73), .mv, [(.t 8)], none, 0, 0⟩,
        ⟨(.some 74), .len, [(.t 73)], none, 0, 0⟩,
        ⟨(.some 75), (.slice 1 false true false), [(.t 72), (.t 74)], none, 0, 0⟩,
        ⟨(.some 76), (.call 16), [(.t 62), (.t 64), (.t 66), (.t 71), (.t 75)], none, 0, 1⟩,
        ⟨(.some 11), .mv, [(.t 76)], none, 1, 1⟩])
      (.seq
      (.ops [0, 3, 4, 5, 6, 7, 8, 9, 10, 11, 12] [
        ⟨(.some 77), .mv, [(.t 4)], none, 0, 0⟩,
        ⟨(.some 78), (.fieldAddr 1), [(.t 7)], none, 0, 0⟩,
        ⟨(.some 79), (.load false 1), [(.t 78)], none, 0, 0⟩,
        ⟨(.some 80), (.fieldAddr 2), [(.t 7)], none, 0, 0⟩,
        ⟨(.some 81), (.load false 1), [(.t 80)], none, 0, 0⟩,
        ⟨(.some 82), (.fieldAddr 4), [(.t 7)], none, 0, 0⟩,
        ⟨(.some 83), (.load false 1), [(.t 82)], none, 0, 0⟩,
        ⟨(.some 84), .mv, [(.t 8)], none, 0, 0⟩,
        ⟨(.some 85), (.call 17), [(.t 77), (.t 79), (.t 81), (.t 83), (.t 84)], none, 0, 0⟩,
        ⟨(.some 12), .mv, [(.t 85)], none, 0, 0⟩])
      (.seq d3_9 d3_10)))
      (.seq d3_11 d3_12)))))
  (.seq d3_15 d3_16))))
def d3_7 : ACode :=
  (.seq
  (.ops [0, 3, 4, 5, 6, 7, 8, 38] [
    ⟨(.some 36), (.fieldAddr 0), [(.t 7)], none, 0, 0⟩,
    ⟨(.some 37), (.load false 1), [(.t 36)], none, 0, 0⟩,
    ⟨(.some 38), (.eq false .int), [(.t 37), (.c (.int .i64 3))], none, 0, 0⟩])
  (.cond (.t 38)
    (.seq
    (.ops [0, 3, 4, 5, 6, 7, 8] [
      ⟨(.some 8), .mv, [(.c .nils)], none, 0, 0⟩])
    (.seq
    (.ops [0, 3, 4, 5, 6, 7, 8, 41] [
      ⟨(.some 39), .mv, [(.t 5)], none, 0, 0⟩,
      ⟨(.some 40), .len, [(.t 39)], none, 0, 0⟩,
      ⟨(.some 41), (.cmp .gtr), [(.t 40), (.c (.int .i64 0))], none, 0, 0⟩])
    (.cond (.t 41)
      (.drawn [0, 3, 4, 5, 6, 7, 8] [
        ⟨(.some 42), .mv, [(.t 5)], none, 0, 1⟩,
        ⟨(.some 43), (.fieldAddr 3), [(.t 7)], none, 0, 0⟩,
        ⟨(.some 44), (.load false 1), [(.t 43)], none, 0, 0⟩,
        ⟨(.some 45), .mv, [(.t 5)], none, 0, 0⟩,
        ⟨(.some 46), .len, [(.t 45)], none, 0, 0⟩,
        ⟨(.some 47), (.call 14), [(.t 44), (.t 46)], none, 0, 1⟩,
        ⟨(.some 48), (.idxAddr 1), [(.t 42), (.t 47)], none, 1, 1⟩,
        ⟨(.some 49), (.load false 1), [(.t 48)], none, 1, 1⟩,
        ⟨(.some 50), (.fieldAddr 6), [(.t 7)], none, 0, 1⟩,
        ⟨(.some 51), (.load false 1), [(.t 50)], none, 0, 1⟩,
        ⟨(.some 52), (.call 13), [(.t 49), (.t 51)], none, 1, 2⟩,
        ⟨(.some 8), .mv, [(.t 52)], none, 2, 2⟩])
      .skip)))
    .skip))
def d3_6 : ACode :=
  (.seq
  (.block 1
    (.seq
    (.ops [0, 3, 4, 5, 6, 7] [
      ⟨(.some 30), .mv, [(.t 0)], none, 0, 0⟩,
      ⟨(.some 31), .mv, [(.t 6)], none, 0, 0⟩,
      ⟨(.some 32), (.idxAddr 7), [(.t 30), (.t 31)], none, 0, 0⟩,
      ⟨(.some 33), (.load true 7), [(.t 32)], none, 0, 0⟩,
      ⟨(.some 7), (.alloc [(.int .i64 0), (.int .i64 0), (.int .i64 0), (.int .i64 0), .nils, .nils, (.int .u8 0)]), [], none, 0, 0⟩,
      ⟨none, (.store 7), [(.t 7), (.t 33)], none, 0, 0⟩])
    (.seq
    (.ops [0, 3, 4, 5, 6, 7, 8] [
      ⟨(.some 34), (.fieldAddr 5), [(.t 7)], none, 0, 0⟩,
      ⟨(.some 35), (.load false 1), [(.t 34)], none, 0, 0⟩,
      ⟨(.some 8), .mv, [(.t 35)], none, 0, 0⟩])
    (.seq d3_7 d3_8))))
  (.ops [0, 3, 4, 5, 6] [
    ⟨(.some 28), .mv, [(.t 6)], none, 0, 0⟩,
    ⟨(.some 29), (.arith .add), [(.t 28), (.c (.int .i64 1))], none, 0, 0⟩,
    ⟨(.some 6), .mv, [(.t 29)], none, 0, 0⟩]))
def d3_5 : ACode :=
  (.seq
  (.ops [0, 3, 4, 5, 6, 27] [
    ⟨(.some 24), .mv, [(.t 6)], none, 0, 0⟩,
    ⟨(.some 25), .mv, [(.t 0)], none, 0, 0⟩,
    ⟨(.some 26), .len, [(.t 25)], none, 0, 0⟩,
    ⟨(.some 27), (.cmp .lss), [(.t 24), (.t 26)], none, 0, 0⟩])
  (.cond (.t 27)
    .skip
    (.exit 0)))
def d3_4 : ACode :=
  (.seq
  (.ops [0, 3, 4, 5] [
    ⟨(.some 5), .mv, [(.c .nils)], none, 0, 0⟩])
  (.seq
  (.seq
  (.ops [0, 3, 4, 5, 6] [
    ⟨(.some 6), .mv, [(.c (.int .i64 0))], none, 0, 0⟩])
  (.block 0
    (.loop [0, 3, 4, 5, 6]
      (.seq d3_5 d3_6))))
  (.seq
  (.ops [2] [
    ⟨(.some 167), (.call 10), [], none, 0, 0⟩,
    ⟨(.some 2), .mv, [(.t 167)], none, 0, 0⟩])
  .ret)))
def d3_3 : ACode :=
  (.seq
  (.ops [0, 3, 4, 23] [
    ⟨(.some 22), .mv, [(.t 3)], none, 0, 0⟩,
    ⟨(.some 23), (.eq false .ptr), [(.t 22), (.c .nilp)], none, 0, 0⟩])
  (.cond (.t 23)
    (.seq
    (.ops [2] [
      ⟨(.some 2), .mv, [(.c (.bool false))], none, 0, 0⟩])
    .ret)
    .skip))
def d3_2 : ACode :=
  (.seq
  (.ops [0, 3] [
    ⟨(.some 20), (.call 11), [], none, 0, 0⟩,
    ⟨(.some 3), .mv, [(.t 20)], none, 0, 0⟩])
  (.seq
  (.ops [0, 3, 4] [
    ⟨(.some 21), (.call 12), [], none, 0, 0⟩,
    ⟨(.some 4), .mv, [(.t 21)], none, 0, 0⟩])
  (.seq d3_3 d3_4)))
def d3_1 : ACode :=
  (.seq
  (.ops [0, 18] [
    ⟨(.some 17), .mv, [(.t 0)], none, 0, 0⟩,
    ⟨(.some 18), (.call 9), [(.t 17)], none, 0, 0⟩])
  (.cond (.t 18)
    (.seq
    (.ops [2] [
      ⟨(.some 19), (.call 10), [], none, 0, 0⟩,
      ⟨(.some 2), .mv, [(.t 19)], none, 0, 0⟩])
    .ret)
    .skip))
theorem q3 : c3 =
  (.seq
  (.ops [0] [
    ⟨(.some 2), .mv, [(.c (.bool false))], none, 0, 0⟩])
  (.seq d3_1 d3_2)) := rfl
/-- rill/rilllaw06.NamesKnown -/
def d7_8 : ACode :=
  (.seq
  (.block 5
    (.seq
    (.ops [5, 6, 7, 8] [
      ⟨(.some 70), .mv, [(.t 5)], none, 0, 0⟩,
      ⟨(.some 71), (.call 30), [(.t 70)], none, 0, 0⟩,
      ⟨(.some 8), .mv, [(.t 71)], none, 0, 0⟩])
    (.seq
    (.ops [5, 6, 7, 8] [
      ⟨(.some 72), .mv, [(.t 8)], none, 0, 0⟩,
      ⟨(.some 73), .mv, [(.t 7)], none, 0, 0⟩,
      ⟨(.some 74), .mv, [(.t 8)], none, 0, 0⟩,
      ⟨(.some 75), .mv, [(.t 7)], none, 0, 0⟩,
      ⟨(.some 76), (.idxAddr 1), [(.t 74), (.t 75)], none, 0, 0⟩,
      ⟨(.some 77), (.load false 1), [(.t 76)], none, 0, 0⟩,
      ⟨(.some 78), (.arith .xor), [(.t 77), (.c (.int .u8 2))], none, 0, 0⟩,
      ⟨(.some 79), (.idxAddr 1), [(.t 72), (.t 73)], none, 0, 0⟩,
      ⟨none, (.store 1), [(.t 79), (.t 78)], none, 0, 0⟩])
    (.seq
    (.ops [5, 6, 7, 102] [
      ⟨(.some 80), .mv, [(.t 6)], none, 0, 0⟩,
      ⟨(.some 81), (.mkSl 1 [(.int .u8 0)] [(0, 1)]), [(.c (.int .u8 7))], none, 0, 0⟩,
      ⟨(.some 82), .mv, [(.t 8)], none, 0, 0⟩,
      ⟨(.some 83), (.call 5), [(.t 80), (.c (.int .i64 1)), (.c (.int .i64 2)), (.t 81), (.t 82)], none, 0, 0⟩,
      ⟨(.some 84), .not, [(.t 83)], none, 0, 0⟩,
      ⟨(.some 85), .mv, [(.t 84)], none, 0, 0⟩,
      ⟨(.some 86), .mv, [(.t 6)], (.some (85, false)), 0, 0⟩,
      ⟨(.some 87), (.mkSl 1 [(.int .u8 0)] [(0, 1)]), [(.c (.int .u8 7))], (.some (85, false)), 0, 0⟩,
      ⟨(.some 88), .mv, [(.t 5)], (.some (85, false)), 0, 0⟩,
      ⟨(.some 89), .mv, [(.t 7)], (.some (85, false)), 0, 0⟩,
      ⟨(.some 90), (.slice 1 false true false), [(.t 88), (.t 89)], (.some (85, false)), 0, 0⟩,
      ⟨(.some 91), (.call 5), [(.t 86), (.c (.int .i64 1)), (.c (.int .i64 2)), (.t 87), (.t 90)], (.some (85, false)), 0, 0⟩,
      ⟨(.some 92), .not, [(.t 91)], (.some (85, false)), 0, 0⟩,
      ⟨(.some 93), .pick, [(.t 85), (.c (.bool true)), (.t 92)], none, 0, 0⟩,
      ⟨(.some 94), .mv, [(.t 93)], none, 0, 0⟩,
      ⟨(.some 95), .mv, [(.t 6)], (.some (94, false)), 0, 0⟩,
      ⟨(.some 96), (.mkSl 1 [(.int .u8 0)] [(0, 1)]), [(.c (.int .u8 7))], (.some (94, false)), 0, 0⟩,
      ⟨(.some 97), .mv, [(.t 5)], (.some (94, false)), 0, 0⟩,
      ⟨(.some 98), .mv, [(.t 7)], (.some (94, false)), 0, 0⟩,
      ⟨(.some 99), (.slice 1 true false false), [(.t 97), (.t 98)], (.some (94, false)), 0, 0⟩,
      ⟨(.some 100), (.call 5), [(.t 95), (.c (.int .i64 1)), (.c (.int .i64 2)), (.t 96), (.t 99)], (.some (94, false)), 0, 0⟩,
      ⟨(.some 101), .not, [(.t 100)], (.some (94, false)), 0, 0⟩,
      ⟨(.some 102), .pick, [(.t 94), (.c (.bool true)), (.t 101)], none, 0, 0⟩])
    (.cond (.t 102)
      (.seq
      (.ops [0] [
        ⟨(.some 0), .mv, [(.c (.bool false))], none, 0, 0⟩])
      .ret)
      .skip)))))
  (.ops [5, 6, 7] [
    ⟨(.some 68), .mv, [(.t 7)], none, 0, 0⟩,
    ⟨(.some 69), (.arith .add), [(.t 68), (.c (.int .i64 1))], none, 0, 0⟩,
    ⟨(.some 7), .mv, [(.t 69)], none, 0, 0⟩]))
def d7_7 : ACode :=
  (.seq
  (.ops [5, 6, 7, 67] [
    ⟨(.some 64), .mv, [(.t 7)], none, 0, 0⟩,
    ⟨(.some 65), .mv, [(.t 5)], none, 0, 0⟩,
    ⟨(.some 66), .len, [(.t 65)], none, 0, 0⟩,
    ⟨(.some 67), (.cmp .lss), [(.t 64), (.t 66)], none, 0, 0⟩])
  (.cond (.t 67)
    .skip
    (.exit 4)))
def d7_6 : ACode :=
  (.seq
  (.ops [5] [
    ⟨(.some 50), (.call 29), [], none, 0, 0⟩,
    ⟨(.some 51), (.mkSl 1 [(.int .u8 0)] [(0, 1)]), [(.c (.int .u8 7))], none, 0, 0⟩,
    ⟨(.some 52), (.mkSl 2 [(.int .u8 0), (.int .u8 0)] [(0, 1), (1, 1)]), [(.c (.int .u8 8)), (.c (.int .u8 9))], none, 0, 0⟩,
    ⟨(.some 53), (.invoke "Seal"), [(.t 50), (.c (.int .i64 1)), (.c (.int .i64 2)), (.t 51), (.t 52)], none, 0, 0⟩,
    ⟨(.some 5), .mv, [(.t 53)], none, 0, 0⟩])
  (.seq
  (.ops [5, 6] [
    ⟨(.some 54), (.mkSl 1 [(.int .u8 0)] [(0, 1)]), [(.c (.int .u8 7))], none, 0, 0⟩,
    ⟨(.some 55), (.mkSl 2 [(.int .u8 0), (.int .u8 0)] [(0, 1), (1, 1)]), [(.c (.int .u8 8)), (.c (.int .u8 9))], none, 0, 0⟩,
    ⟨(.some 56), (.build [(.int .i64 0), (.int .i64 0), .nils, .nils] [(0, 1), (1, 1), (2, 1), (3, 1)]), [(.c (.int .i64 1)), (.c (.int .i64 2)), (.t 54), (.t 55)], none, 0, 0⟩,
    ⟨(.some 57), (.mkSl 1 [(.int .u8 0)] [(0, 1)]), [(.c (.int .u8 7))], none, 0, 0⟩,
    ⟨(.some 58), (.mkSl 2 [(.int .u8 0), (.int .u8 0)] [(0, 1), (1, 1)]), [(.c (.int .u8 8)), (.c (.int .u8 9))], none, 0, 0⟩,
    ⟨(.some 59), (.build [(.int .i64 0), (.int .i64 0), .nils, .nils] [(0, 1), (1, 1), (2, 1), (3, 1)]), [(.c (.int .i64 1)), (.c (.int .i64 3)), (.t 57), (.t 58)], none, 0, 0⟩,
    ⟨(.some 60), .mv, [(.t 5)], none, 0, 0⟩,
    ⟨(.some 61), (.build [(.int .i64 0), (.int .i64 0), .nils, .nils] [(0, 1), (1, 1), (3, 1)]), [(.c (.int .i64 1)), (.c (.int .i64 2)), (.t 60)], none, 0, 0⟩,
    ⟨(.some 62), (.build [(.int .i64 0), (.int .i64 0), .nils, .nils] [(0, 1)]), [(.c (.int .i64 (-1)))], none, 0, 0⟩,
    ⟨(.some 63), (.mkSl 4 [(.int .i64 0), (.int .i64 0), .nils, .nils, (.int .i64 0), (.int .i64 0), .nils, .nils, (.int .i64 0), (.int .i64 0), .nils, .nils, (.int .i64 0), (.int .i64 0), .nils, .nils] [(0, 4), (4, 4), (8, 4), (12, 4)]), [(.t 56), (.t 59), (.t 61), (.t 62)], none, 0, 0⟩,
    ⟨(.some 6), .mv, [(.t 63)], none, 0, 0⟩])
  (.seq
  (.seq
  (.ops [5, 6, 7] [
    ⟨(.some 7), .mv, [(.c (.int .i64 0))], none, 0, 0⟩])
  (.block 4
    (.loop [5, 6, 7]
      (.seq d7_7 d7_8))))
  (.seq
  (.ops [0] [
    ⟨(.some 103), .mv, [(.t 6)], none, 0, 0⟩,
    ⟨(.some 104), (.call 4), [(.t 103)], none, 0, 0⟩,
    ⟨(.some 105), .mv, [(.t 104)], none, 0, 0⟩,
    ⟨(.some 106), .mv, [(.t 6)], (.some (105, true)), 0, 0⟩,
    ⟨(.some 107), (.mkSl 1 [(.int .u8 0)] [(0, 1)]), [(.c (.int .u8 7))], (.some (105, true)), 0, 0⟩,
    ⟨(.some 108), .mv, [(.t 5)], (.some (105, true)), 0, 0⟩,
    ⟨(.some 109), (.call 5), [(.t 106), (.c (.int .i64 1)), (.c (.int .i64 2)), (.t 107), (.t 108)], (.some (105, true)), 0, 0⟩,
    ⟨(.some 110), .pick, [(.t 105), (.t 109), (.c (.bool false))], none, 0, 0⟩,
    ⟨(.some 111), .mv, [(.t 110)], none, 0, 0⟩,
    ⟨(.some 112), .mv, [(.t 6)], (.some (111, true)), 0, 0⟩,
    ⟨(.some 113), (.mkSl 1 [(.int .u8 0)] [(0, 1)]), [(.c (.int .u8 7))], (.some (111, true)), 0, 0⟩,
    ⟨(.some 114), .mv, [(.t 5)], (.some (111, true)), 0, 0⟩,
    ⟨(.some 115), (.call 5), [(.t 112), (.c (.int .i64 1)), (.c (.int .i64 3)), (.t 113), (.t 114)], (.some (111, true)), 0, 0⟩,
    ⟨(.some 116), .pick, [(.t 111), (.t 115), (.c (.bool false))], none, 0, 0⟩,
    ⟨(.some 117), .mv, [(.t 116)], none, 0, 0⟩,
    ⟨(.some 118), (.mkSl 1 [(.int .u8 0)] [(0, 1)]), [(.c (.int .u8 5))], (.some (117, true)), 0, 0⟩,
    ⟨(.some 119), (.mkSl 2 [(.int .u8 0), (.int .u8 0)] [(0, 1), (1, 1)]), [(.c (.int .u8 5)), (.c (.int .u8 5))], (.some (117, true)), 0, 0⟩,
    ⟨(.some 120), (.mkSl 0 [] []), [], (.some (117, true)), 0, 0⟩,
    ⟨(.some 121), (.mkSl 1 [(.int .u8 0)] [(0, 1)]), [(.c (.int .u8 0))], (.some (117, true)), 0, 0⟩,
    ⟨(.some 122), (.mkSl 1 [(.int .u8 0)] [(0, 1)]), [(.c (.int .u8 5))], (.some (117, true)), 0, 0⟩,
    ⟨(.some 123), (.mkSl 7 [.nils, .nils, .nils, .nils, .nils, .nils, .nils] [(0, 1), (1, 1), (2, 1), (3, 1), (4, 1), (5, 1), (6, 1)]), [(.c .nils), (.t 118), (.c .nils), (.t 119), (.t 120), (.t 121), (.t 122)], (.some (117, true)), 0, 0⟩,
    ⟨(.some 124), (.call 6), [(.t 123)], (.some (117, true)), 0, 0⟩,
    ⟨(.some 125), .pick, [(.t 117), (.t 124), (.c (.bool false))], none, 0, 0⟩,
    ⟨(.some 126), .mv, [(.t 125)], none, 0, 0⟩,
    ⟨(.some 127), (.call 10), [], (.some (126, true)), 0, 0⟩,
    ⟨(.some 128), .pick, [(.t 126), (.t 127), (.c (.bool false))], none, 0, 0⟩,
    ⟨(.some 0), .mv, [(.t 128)], none, 0, 0⟩])
  .ret))))
def d7_5 : ACode :=
  (.seq
  (.ops [49] [
    ⟨(.some 47), .mv, [(.t 2)], none, 0, 0⟩,
    ⟨(.some 48), (.call 3), [(.t 47)], none, 0, 0⟩,
    ⟨(.some 49), .not, [(.t 48)], none, 0, 0⟩])
  (.cond (.t 49)
    (.seq
    (.ops [0] [
      ⟨(.some 0), .mv, [(.c (.bool false))], none, 0, 0⟩])
    .ret)
    .skip))
def d7_4 : ACode :=
  (.seq
  (.block 3
    (.drawn [1, 2, 3, 4] [
      ⟨(.some 22), .mv, [(.t 2)], none, 0, 0⟩,
      ⟨(.some 23), .mv, [(.t 1)], none, 0, 0⟩,
      ⟨(.some 24), .mv, [(.t 3)], none, 0, 0⟩,
      ⟨(.some 25), (.idxAddr 1), [(.t 23), (.t 24)], none, 0, 0⟩,
      ⟨(.some 26), (.load false 1), [(.t 25)], none, 0, 0⟩,
      ⟨(.some 27), .mv, [(.t 1)], none, 0, 0⟩,
      ⟨(.some 28), .mv, [(.t 4)], none, 0, 0⟩,
      ⟨(.some 29), (.idxAddr 1), [(.t 27), (.t 28)], none, 0, 0⟩,
      ⟨(.some 30), (.load false 1), [(.t 29)], none, 0, 0⟩,
      ⟨(.some 31), (.mkSl 1 [(.int .u8 0)] [(0, 1)]), [(.c (.int .u8 7))], none, 0, 0⟩,
      ⟨(.some 32), (.mkSl 2 [(.int .u8 0), (.int .u8 0)] [(0, 1), (1, 1)]), [(.c (.int .u8 8)), (.c (.int .u8 9))], none, 0, 0⟩,
      ⟨(.some 33), (.build [(.int .i64 0), (.int .i64 0), (.int .i64 0), (.int .i64 0), .nils, .nils, (.int .u8 0)] [(1, 1), (2, 1), (4, 1), (5, 1)]), [(.t 26), (.t 30), (.t 31), (.t 32)], none, 0, 0⟩,
      ⟨(.some 34), .mv, [(.t 1)], none, 0, 0⟩,
      ⟨(.some 35), .mv, [(.t 4)], none, 0, 0⟩,
      ⟨(.some 36), (.idxAddr 1), [(.t 34), (.t 35)], none, 0, 0⟩,
      ⟨(.some 37), (.load false 1), [(.t 36)], none, 0, 0⟩,
      ⟨(.some 38), .mv, [(.t 1)], none, 0, 0⟩,
      ⟨(.some 39), .mv, [(.t 3)], none, 0, 0⟩,
      ⟨(.some 40), (.idxAddr 1), [(.t 38), (.t 39)], none, 0, 0⟩,
      ⟨(.some 41), (.load false 1), [(.t 40)], none, 0, 0⟩,
      ⟨(.some 42), .mv, [(.t 4)], none, 0, 0⟩,
      ⟨(.some 43), (.mkSl 1 [(.int .u8 0)] [(0, 1)]), [(.c (.int .u8 7))], none, 0, 0⟩,
      ⟨(.some 44), (.build [(.int .i64 0), (.int .i64 0), (.int .i64 0), (.int .i64 0), .nils, .nils, (.int .u8 0)] [(0, 1), (1, 1), (2, 1), (3, 1), (4, 1)]), [(.c (.int .i64 3)), (.t 37), (.t 41), (.t 42), (.t 43)], none, 0, 0⟩,
      ⟨(.some 45), (.mkSl 2 [(.int .i64 0), (.int .i64 0), (.int .i64 0), (.int .i64 0), .nils, .nils, (.int .u8 0), (.int .i64 0), (.int .i64 0), (.int .i64 0), (.int .i64 0), .nils, .nils, (.int .u8 0)] [(0, 7), (7, 7)]), [(.t 33), (.t 44)], none, 0, 0⟩,
      ⟨(.some 46), (.append 7 88), [(.t 22), (.t 45)], none, 0, 1⟩,
      ⟨(.some 2), .mv, [(.t 46)], none, 1, 1⟩]))
  (.ops [1, 2, 3, 4] [
    ⟨(.some 20), .mv, [(.t 4)], none, 0, 0⟩,
    ⟨(.some 21), (.arith .add), [(.t 20), (.c (.int .i64 1))], none, 0, 0⟩,
    ⟨(.some 4), .mv, [(.t 21)], none, 0, 0⟩]))
def d7_3 : ACode :=
  (.seq
  (.ops [1, 2, 3, 4, 19] [
    ⟨(.some 16), .mv, [(.t 4)], none, 0, 0⟩,
    ⟨(.some 17), .mv, [(.t 1)], none, 0, 0⟩,
    ⟨(.some 18), .len, [(.t 17)], none, 0, 0⟩,
    ⟨(.some 19), (.cmp .lss), [(.t 16), (.t 18)], none, 0, 0⟩])
  (.cond (.t 19)
    .skip
    (.exit 2)))
def d7_2 : ACode :=
  (.seq
  (.block 1
    (.seq
    (.ops [1, 2, 3, 4] [
      ⟨(.some 4), .mv, [(.c (.int .i64 0))], none, 0, 0⟩])
    (.block 2
      (.loop [1, 2, 3, 4]
        (.seq d7_3 d7_4)))))
  (.ops [1, 2, 3] [
    ⟨(.some 14), .mv, [(.t 3)], none, 0, 0⟩,
    ⟨(.some 15), (.arith .add), [(.t 14), (.c (.int .i64 1))], none, 0, 0⟩,
    ⟨(.some 3), .mv, [(.t 15)], none, 0, 0⟩]))
def d7_1 : ACode :=
  (.seq
  (.ops [1, 2, 3, 13] [
    ⟨(.some 10), .mv, [(.t 3)], none, 0, 0⟩,
    ⟨(.some 11), .mv, [(.t 1)], none, 0, 0⟩,
    ⟨(.some 12), .len, [(.t 11)], none, 0, 0⟩,
    ⟨(.some 13), (.cmp .lss), [(.t 10), (.t 12)], none, 0, 0⟩])
  (.cond (.t 13)
    .skip
    (.exit 0)))
theorem q7 : c7 =
  (.seq
  (.ops [] [
    ⟨(.some 0), .mv, [(.c (.bool false))], none, 0, 0⟩])
  (.seq
  (.ops [1] [
    ⟨(.some 9), (.mkSl 8 [(.int .i64 0), (.int .i64 0), (.int .i64 0), (.int .i64 0), (.int .i64 0), (.int .i64 0), (.int .i64 0), (.int .i64 0)] [(0, 1), (1, 1), (2, 1), (3, 1), (4, 1), (5, 1), (6, 1), (7, 1)]), [(.c (.int .i64 (-9223372036854775808))), (.c (.int .i64 (-1))), (.c (.int .i64 0)), (.c (.int .i64 1)), (.c (.int .i64 2)), (.c (.int .i64 1099511627776)), (.c (.int .i64 1099511627777)), (.c (.int .i64 9223372036854775807))], none, 0, 0⟩,
    ⟨(.some 1), .mv, [(.t 9)], none, 0, 0⟩])
  (.seq
  (.ops [1, 2] [
    ⟨(.some 2), .mv, [(.c .nils)], none, 0, 0⟩])
  (.seq
  (.seq
  (.ops [1, 2, 3] [
    ⟨(.some 3), .mv, [(.c (.int .i64 0))], none, 0, 0⟩])
  (.block 0
    (.loop [1, 2, 3]
      (.seq d7_1 d7_2))))
  (.seq d7_5 d7_6))))) := rfl
/-- (*rill/names.Names).Seal -/
def c16_2 : ACode :=
  (.seq
  (.drawn [10] [
    ⟨(.some 61), .mv, [(.t 4)], none, 0, 1⟩,
    ⟨(.some 62), (.mkSlice [(.int .u8 0)] 1), [(.c (.int .i64 24)), (.c (.int .i64 24))], none, 0, 1⟩,
    ⟨(.some 63), .mv, [(.t 12)], none, 0, 0⟩,
    ⟨(.some 64), (.call 33), [(.t 63)], none, 0, 1⟩,
    ⟨(.some 65), (.mkSl 3 [.nils, .nils, .nils] [(0, 1), (1, 1), (2, 1)]), [(.t 61), (.t 62), (.t 64)], none, 1, 1⟩,
    ⟨(.some 66), (.call 32), [(.t 65)], none, 1, 2⟩,
    ⟨(.some 10), .mv, [(.t 66)], none, 2, 2⟩])
  .ret)
def c16_1 : ACode :=
  (.seq
  (.ops [0, 4, 11, 12, 39] [
    ⟨(.some 38), .mv, [(.t 13)], none, 0, 0⟩,
    ⟨(.some 39), .not, [(.t 38)], none, 0, 0⟩])
  (.cond (.t 39)
    (.seq
    (.drawn [0, 4, 11] [
      ⟨(.some 40), .mv, [(.t 0)], none, 0, 1⟩,
      ⟨(.some 41), .mv, [(.t 0)], none, 0, 0⟩,
      ⟨(.some 42), .nilCheck, [(.t 41)], none, 0, 0⟩,
      ⟨(.some 43), (.fieldAddr 1), [(.t 42)], none, 0, 0⟩,
      ⟨(.some 44), (.load false 1), [(.t 43)], none, 0, 0⟩,
      ⟨(.some 45), (.load true 4), [(.t 11)], none, 0, 0⟩,
      ⟨(.some 46), (.mkSl 1 [(.int .i64 0), (.int .i64 0), (.str ⟨#[]⟩), (.str ⟨#[]⟩)] [(0, 4)]), [(.t 45)], none, 0, 0⟩,
      ⟨(.some 47), (.append 4 48), [(.t 44), (.t 46)], none, 0, 1⟩,
      ⟨(.some 48), .nilCheck, [(.t 40)], none, 1, 1⟩,
      ⟨(.some 49), (.fieldAddr 1), [(.t 48)], none, 1, 1⟩,
      ⟨none, (.store 1), [(.t 49), (.t 47)], none, 1, 2⟩])
    (.seq
    (.ops [0, 4, 11, 12] [
      ⟨(.some 50), .mv, [(.t 0)], none, 0, 0⟩,
      ⟨(.some 51), .nilCheck, [(.t 50)], none, 0, 0⟩,
      ⟨(.some 52), (.fieldAddr 1), [(.t 51)], none, 0, 0⟩,
      ⟨(.some 53), (.load false 1), [(.t 52)], none, 0, 0⟩,
      ⟨(.some 54), .len, [(.t 53)], none, 0, 0⟩,
      ⟨(.some 12), .mv, [(.t 54)], none, 0, 0⟩])
    (.drawn [4, 12] [
      ⟨(.some 55), .mv, [(.t 0)], none, 0, 0⟩,
      ⟨(.some 56), .nilCheck, [(.t 55)], none, 0, 0⟩,
      ⟨(.some 57), (.fieldAddr 0), [(.t 56)], none, 0, 0⟩,
      ⟨(.some 58), (.load false 1), [(.t 57)], none, 0, 0⟩,
      ⟨(.some 59), (.load true 4), [(.t 11)], none, 0, 0⟩,
      ⟨(.some 60), .mv, [(.t 12)], none, 0, 0⟩,
      ⟨none, (.mapSet (.agg [.i, .i, .s, .s])), [(.t 58), (.t 59), (.t 60)], none, 0, 1⟩])))
    .skip))
theorem p16 : c16 =
  (.seq
  (.ops [0, 1, 2, 3, 4] [
    ⟨(.some 10), .mv, [(.c .nils)], none, 0, 0⟩])
  (.seq
  (.seq
  (.ops [0, 1, 2, 3, 4, 21] [
    ⟨(.some 14), .mv, [(.t 1)], none, 0, 0⟩,
    ⟨(.some 15), (.call 31), [(.t 14)], none, 0, 0⟩,
    ⟨(.some 16), .not, [(.t 15)], none, 0, 0⟩,
    ⟨(.some 17), .mv, [(.t 16)], none, 0, 0⟩,
    ⟨(.some 18), .mv, [(.t 2)], (.some (17, false)), 0, 0⟩,
    ⟨(.some 19), (.call 31), [(.t 18)], (.some (17, false)), 0, 0⟩,
    ⟨(.some 20), .not, [(.t 19)], (.some (17, false)), 0, 0⟩,
    ⟨(.some 21), .pick, [(.t 17), (.c (.bool true)), (.t 20)], none, 0, 0⟩])
  (.cond (.t 21)
    (.seq
    (.ops [10] [
      ⟨(.some 10), .mv, [(.c .nils)], none, 0, 0⟩])
    .ret)
    .skip))
  (.seq
  (.ops [0, 4, 11] [
    ⟨(.some 22), .mv, [(.t 1)], none, 0, 0⟩,
    ⟨(.some 23), .mv, [(.t 2)], none, 0, 0⟩,
    ⟨(.some 24), .mv, [(.t 3)], none, 0, 0⟩,
    ⟨(.some 25), .b2s, [(.t 24)], none, 0, 0⟩,
    ⟨(.some 26), .mv, [(.t 4)], none, 0, 0⟩,
    ⟨(.some 27), .b2s, [(.t 26)], none, 0, 0⟩,
    ⟨(.some 28), (.build [(.int .i64 0), (.int .i64 0), (.str ⟨#[]⟩), (.str ⟨#[]⟩)] [(0, 1), (1, 1), (2, 1), (3, 1)]), [(.t 22), (.t 23), (.t 25), (.t 27)], none, 0, 0⟩,
    ⟨(.some 11), (.alloc [(.int .i64 0), (.int .i64 0), (.str ⟨#[]⟩), (.str ⟨#[]⟩)]), [], none, 0, 0⟩,
    ⟨none, (.store 4), [(.t 11), (.t 28)], none, 0, 0⟩])
  (.seq
  (.drawn [0, 4, 11, 12, 13] [
    ⟨(.some 30), .mv, [(.t 0)], none, 0, 0⟩,
    ⟨(.some 31), .nilCheck, [(.t 30)], none, 0, 0⟩,
    ⟨(.some 32), (.fieldAddr 0), [(.t 31)], none, 0, 0⟩,
    ⟨(.some 33), (.load false 1), [(.t 32)], none, 0, 0⟩,
    ⟨(.some 34), (.load true 4), [(.t 11)], none, 0, 0⟩,
    ⟨(.some 35), (.lookup (.agg [.i, .i, .s, .s]) (.int .i64 0) true), [(.t 33), (.t 34)], none, 0, 0⟩,
    ⟨(.some 29), .mv, [(.t 35)], none, 0, 0⟩,
    ⟨(.some 36), (.extract 0), [(.t 29)], none, 0, 0⟩,
    ⟨(.some 37), (.extract 1), [(.t 29)], none, 0, 0⟩,
    ⟨(.some 12), .mv, [(.t 36)], none, 0, 0⟩,
    ⟨(.some 13), .mv, [(.t 37)], none, 0, 0⟩])
  (.seq c16_1 c16_2))))) := rfl
/-- (*rill/rillref06.Names).Seal -/
def c17_2 : ACode :=
  (.seq
  (.ops [12, 13] [
    ⟨(.some 57), .mv, [(.t 4)], none, 0, 0⟩,
    ⟨(.some 58), (.call 30), [(.t 57)], none, 0, 0⟩,
    ⟨(.some 13), .mv, [(.t 58)], none, 0, 0⟩])
  (.seq
  (.ops [13, 14] [
    ⟨(.some 59), .mv, [(.t 12)], none, 0, 0⟩,
    ⟨(.some 60), (.call 35), [(.t 59)], none, 0, 0⟩,
    ⟨(.some 14), .mv, [(.t 60)], none, 0, 0⟩])
  (.seq
  (.seq
  (.ops [13, 14, 15] [
    ⟨(.some 15), .mv, [(.c (.int .i64 0))], none, 0, 0⟩])
  (.block 0
    (.loop [13, 14, 15]
      (.seq
      (.seq
      (.ops [13, 14, 15, 64] [
        ⟨(.some 61), .mv, [(.t 15)], none, 0, 0⟩,
        ⟨(.some 62), .mv, [(.t 14)], none, 0, 0⟩,
        ⟨(.some 63), .len, [(.t 62)], none, 0, 0⟩,
        ⟨(.some 64), (.cmp .lss), [(.t 61), (.t 63)], none, 0, 0⟩])
      (.cond (.t 64)
        .skip
        (.exit 0)))
      (.seq
      (.block 1
        (.ops [13, 14, 15] [
          ⟨(.some 67), .mv, [(.t 13)], none, 0, 0⟩,
          ⟨(.some 68), .mv, [(.t 14)], none, 0, 0⟩,
          ⟨(.some 69), .mv, [(.t 15)], none, 0, 0⟩,
          ⟨(.some 70), (.idxAddr 1), [(.t 68), (.t 69)], none, 0, 0⟩,
          ⟨(.some 71), (.load false 1), [(.t 70)], none, 0, 0⟩,
          ⟨(.some 72), (.mkSl 1 [(.int .u8 0)] [(0, 1)]), [(.t 71)], none, 0, 0⟩,
          ⟨(.some 73), (.append 1 1), [(.t 67), (.t 72)], none, 0, 0⟩,
          ⟨(.some 13), .mv, [(.t 73)], none, 0, 0⟩]))
      (.ops [13, 14, 15] [
        ⟨(.some 65), .mv, [(.t 15)], none, 0, 0⟩,
        ⟨(.some 66), (.arith .add), [(.t 65), (.c (.int .i64 1))], none, 0, 0⟩,
        ⟨(.some 15), .mv, [(.t 66)], none, 0, 0⟩]))))))
  (.seq
  (.ops [10] [
    ⟨(.some 74), .mv, [(.t 13)], none, 0, 0⟩,
    ⟨(.some 10), .mv, [(.t 74)], none, 0, 0⟩])
  .ret))))
def c17_1 : ACode :=
  (.seq
  (.ops [0, 4, 11, 12, 41] [
    ⟨(.some 40), .mv, [(.t 12)], none, 0, 0⟩,
    ⟨(.some 41), (.eq false .int), [(.t 40), (.c (.int .i64 0))], none, 0, 0⟩])
  (.cond (.t 41)
    (.seq
    (.drawn [0, 4] [
      ⟨(.some 42), .mv, [(.t 0)], none, 0, 1⟩,
      ⟨(.some 43), .mv, [(.t 0)], none, 0, 0⟩,
      ⟨(.some 44), .nilCheck, [(.t 43)], none, 0, 0⟩,
      ⟨(.some 45), (.fieldAddr 0), [(.t 44)], none, 0, 0⟩,
      ⟨(.some 46), (.load false 1), [(.t 45)], none, 0, 0⟩,
      ⟨(.some 47), (.load true 4), [(.t 11)], none, 0, 0⟩,
      ⟨(.some 48), (.mkSl 1 [(.int .i64 0), (.int .i64 0), .nils, .nils] [(0, 4)]), [(.t 47)], none, 0, 0⟩,
      ⟨(.some 49), (.append 4 64), [(.t 46), (.t 48)], none, 0, 1⟩,
      ⟨(.some 50), .nilCheck, [(.t 42)], none, 1, 1⟩,
      ⟨(.some 51), (.fieldAddr 0), [(.t 50)], none, 1, 1⟩,
      ⟨none, (.store 1), [(.t 51), (.t 49)], none, 1, 2⟩])
    (.ops [4, 12] [
      ⟨(.some 52), .mv, [(.t 0)], none, 0, 0⟩,
      ⟨(.some 53), .nilCheck, [(.t 52)], none, 0, 0⟩,
      ⟨(.some 54), (.fieldAddr 0), [(.t 53)], none, 0, 0⟩,
      ⟨(.some 55), (.load false 1), [(.t 54)], none, 0, 0⟩,
      ⟨(.some 56), .len, [(.t 55)], none, 0, 0⟩,
      ⟨(.some 12), .mv, [(.t 56)], none, 0, 0⟩]))
    .skip))
theorem p17 : c17 =
  (.seq
  (.ops [0, 1, 2, 3, 4] [
    ⟨(.some 10), .mv, [(.c .nils)], none, 0, 0⟩])
  (.seq
  (.seq
  (.ops [0, 1, 2, 3, 4, 29] [
    ⟨(.some 16), .mv, [(.t 1)], none, 0, 0⟩,
    ⟨(.some 17), (.cmp .lss), [(.t 16), (.c (.int .i64 0))], none, 0, 0⟩,
    ⟨(.some 18), .mv, [(.t 17)], none, 0, 0⟩,
    ⟨(.some 19), .mv, [(.t 2)], (.some (18, false)), 0, 0⟩,
    ⟨(.some 20), (.cmp .lss), [(.t 19), (.c (.int .i64 0))], (.some (18, false)), 0, 0⟩,
    ⟨(.some 21), .pick, [(.t 18), (.c (.bool true)), (.t 20)], none, 0, 0⟩,
    ⟨(.some 22), .mv, [(.t 21)], none, 0, 0⟩,
    ⟨(.some 23), .mv, [(.t 1)], (.some (22, false)), 0, 0⟩,
    ⟨(.some 24), (.cmp .gtr), [(.t 23), (.c (.int .i64 1099511627776))], (.some (22, false)), 0, 0⟩,
    ⟨(.some 25), .pick, [(.t 22), (.c (.bool true)), (.t 24)], none, 0, 0⟩,
    ⟨(.some 26), .mv, [(.t 25)], none, 0, 0⟩,
    ⟨(.some 27), .mv, [(.t 2)], (.some (26, false)), 0, 0⟩,
    ⟨(.some 28), (.cmp .gtr), [(.t 27), (.c (.int .i64 1099511627776))], (.some (26, false)), 0, 0⟩,
    ⟨(.some 29), .pick, [(.t 26), (.c (.bool true)), (.t 28)], none, 0, 0⟩])
  (.cond (.t 29)
    (.seq
    (.ops [10] [
      ⟨(.some 10), .mv, [(.c .nils)], none, 0, 0⟩])
    .ret)
    .skip))
  (.seq
  (.ops [0, 4, 11] [
    ⟨(.some 30), .mv, [(.t 1)], none, 0, 0⟩,
    ⟨(.some 31), .mv, [(.t 2)], none, 0, 0⟩,
    ⟨(.some 32), .mv, [(.t 3)], none, 0, 0⟩,
    ⟨(.some 33), (.call 30), [(.t 32)], none, 0, 0⟩,
    ⟨(.some 34), .mv, [(.t 4)], none, 0, 0⟩,
    ⟨(.some 35), (.call 30), [(.t 34)], none, 0, 0⟩,
    ⟨(.some 36), (.build [(.int .i64 0), (.int .i64 0), .nils, .nils] [(0, 1), (1, 1), (2, 1), (3, 1)]), [(.t 30), (.t 31), (.t 33), (.t 35)], none, 0, 0⟩,
    ⟨(.some 11), (.alloc [(.int .i64 0), (.int .i64 0), .nils, .nils]), [], none, 0, 0⟩,
    ⟨none, (.store 4), [(.t 11), (.t 36)], none, 0, 0⟩])
  (.seq
  (.ops [0, 4, 11, 12] [
    ⟨(.some 37), .mv, [(.t 0)], none, 0, 0⟩,
    ⟨(.some 38), (.load true 4), [(.t 11)], none, 0, 0⟩,
    ⟨(.some 39), (.call 34), [(.t 37), (.t 38)], none, 0, 0⟩,
    ⟨(.some 12), .mv, [(.t 39)], none, 0, 0⟩])
  (.seq c17_1 c17_2))))) := rfl
/-- (*rill/rillref06.Names).Open -/
def d21_6 : ACode :=
  (.seq
  (.drawn [0, 1, 2, 3, 4, 12, 13, 14, 67] [
    ⟨(.some 44), (.fieldAddr 0), [(.t 14)], none, 0, 0⟩,
    ⟨(.some 45), (.load false 1), [(.t 44)], none, 0, 0⟩,
    ⟨(.some 46), .mv, [(.t 1)], none, 0, 0⟩,
    ⟨(.some 47), (.eq false .int), [(.t 45), (.t 46)], none, 0, 0⟩,
    ⟨(.some 48), .mv, [(.t 47)], none, 0, 0⟩,
    ⟨(.some 49), (.fieldAddr 1), [(.t 14)], (.some (48, true)), 0, 0⟩,
    ⟨(.some 50), (.load false 1), [(.t 49)], (.some (48, true)), 0, 0⟩,
    ⟨(.some 51), .mv, [(.t 2)], (.some (48, true)), 0, 0⟩,
    ⟨(.some 52), (.eq false .int), [(.t 50), (.t 51)], (.some (48, true)), 0, 0⟩,
    ⟨(.some 53), .pick, [(.t 48), (.t 52), (.c (.bool false))], none, 0, 0⟩,
    ⟨(.some 54), .mv, [(.t 53)], none, 0, 0⟩,
    ⟨(.some 55), (.fieldAddr 2), [(.t 14)], (.some (54, true)), 0, 0⟩,
    ⟨(.some 56), (.load false 1), [(.t 55)], (.some (54, true)), 0, 0⟩,
    ⟨(.some 57), .mv, [(.t 3)], (.some (54, true)), 0, 0⟩,
    ⟨(.some 58), (.call 18), [(.t 56), (.t 57)], (.some (54, true)), 0, 1⟩,
    ⟨(.some 59), .pick, [(.t 54), (.t 58), (.c (.bool false))], none, 1, 1⟩,
    ⟨(.some 60), .mv, [(.t 59)], none, 1, 1⟩,
    ⟨(.some 61), (.fieldAddr 3), [(.t 14)], (.some (60, true)), 1, 1⟩,
    ⟨(.some 62), (.load false 1), [(.t 61)], (.some (60, true)), 1, 1⟩,
    ⟨(.some 63), .mv, [(.t 4)], (.some (60, true)), 1, 1⟩,
    ⟨(.some 64), .mv, [(.t 12)], (.some (60, true)), 1, 1⟩,
    ⟨(.some 65), (.slice 1 false true false), [(.t 63), (.t 64)], (.some (60, true)), 1, 1⟩,
    ⟨(.some 66), (.call 18), [(.t 62), (.t 65)], (.some (60, true)), 1, 2⟩,
    ⟨(.some 67), .pick, [(.t 60), (.t 66), (.c (.bool false))], none, 2, 2⟩])
  (.cond (.t 67)
    (.seq
    (.ops [10, 11] [
      ⟨(.some 68), (.fieldAddr 3), [(.t 14)], none, 0, 0⟩,
      ⟨(.some 69), (.load false 1), [(.t 68)], none, 0, 0⟩,
      ⟨(.some 70), (.call 30), [(.t 69)], none, 0, 0⟩,
      ⟨(.some 10), .mv, [(.t 70)], none, 0, 0⟩,
      ⟨(.some 11), .mv, [(.c (.bool true))], none, 0, 0⟩])
    .ret)
    .skip))
def d21_5 : ACode :=
  (.seq
  (.drawn [0, 1, 2, 3, 4, 12, 13, 14, 43] [
    ⟨(.some 37), .mv, [(.t 4)], none, 0, 1⟩,
    ⟨(.some 38), .mv, [(.t 12)], none, 0, 1⟩,
    ⟨(.some 39), (.slice 1 true false false), [(.t 37), (.t 38)], none, 0, 1⟩,
    ⟨(.some 40), .mv, [(.t 13)], none, 0, 0⟩,
    ⟨(.some 41), (.call 35), [(.t 40)], none, 0, 1⟩,
    ⟨(.some 42), (.call 18), [(.t 39), (.t 41)], none, 1, 2⟩,
    ⟨(.some 43), .not, [(.t 42)], none, 2, 2⟩])
  (.cond (.t 43)
    (.exit 1)
    .skip))
def d21_4 : ACode :=
  (.seq
  (.block 1
    (.seq
    (.ops [0, 1, 2, 3, 4, 12, 13, 14] [
      ⟨(.some 29), .mv, [(.t 0)], none, 0, 0⟩,
      ⟨(.some 30), .nilCheck, [(.t 29)], none, 0, 0⟩,
      ⟨(.some 31), (.fieldAddr 0), [(.t 30)], none, 0, 0⟩,
      ⟨(.some 32), (.load false 1), [(.t 31)], none, 0, 0⟩,
      ⟨(.some 33), .mv, [(.t 13)], none, 0, 0⟩,
      ⟨(.some 34), (.arith .sub), [(.t 33), (.c (.int .i64 1))], none, 0, 0⟩,
      ⟨(.some 35), (.idxAddr 4), [(.t 32), (.t 34)], none, 0, 0⟩,
      ⟨(.some 36), (.load true 4), [(.t 35)], none, 0, 0⟩,
      ⟨(.some 14), (.alloc [(.int .i64 0), (.int .i64 0), .nils, .nils]), [], none, 0, 0⟩,
      ⟨none, (.store 4), [(.t 14), (.t 36)], none, 0, 0⟩])
    (.seq d21_5 d21_6)))
  (.ops [0, 1, 2, 3, 4, 12, 13] [
    ⟨(.some 27), .mv, [(.t 13)], none, 0, 0⟩,
    ⟨(.some 28), (.arith .add), [(.t 27), (.c (.int .i64 1))], none, 0, 0⟩,
    ⟨(.some 13), .mv, [(.t 28)], none, 0, 0⟩]))
def d21_3 : ACode :=
  (.seq
  (.ops [0, 1, 2, 3, 4, 12, 13, 26] [
    ⟨(.some 20), .mv, [(.t 13)], none, 0, 0⟩,
    ⟨(.some 21), .mv, [(.t 0)], none, 0, 0⟩,
    ⟨(.some 22), .nilCheck, [(.t 21)], none, 0, 0⟩,
    ⟨(.some 23), (.fieldAddr 0), [(.t 22)], none, 0, 0⟩,
    ⟨(.some 24), (.load false 1), [(.t 23)], none, 0, 0⟩,
    ⟨(.some 25), .len, [(.t 24)], none, 0, 0⟩,
    ⟨(.some 26), (.cmp .leq), [(.t 20), (.t 25)], none, 0, 0⟩])
  (.cond (.t 26)
    .skip
    (.exit 0)))
def d21_2 : ACode :=
  (.seq
  (.seq
  (.ops [0, 1, 2, 3, 4, 12, 13] [
    ⟨(.some 13), .mv, [(.c (.int .i64 1))], none, 0, 0⟩])
  (.block 0
    (.loop [0, 1, 2, 3, 4, 12, 13]
      (.seq d21_3 d21_4))))
  (.seq
  (.ops [10, 11] [
    ⟨(.some 10), .mv, [(.c .nils)], none, 0, 0⟩,
    ⟨(.some 11), .mv, [(.c (.bool false))], none, 0, 0⟩])
  .ret))
def d21_1 : ACode :=
  (.seq
  (.ops [0, 1, 2, 3, 4, 12, 19] [
    ⟨(.some 18), .mv, [(.t 12)], none, 0, 0⟩,
    ⟨(.some 19), (.cmp .lss), [(.t 18), (.c (.int .i64 0))], none, 0, 0⟩])
  (.cond (.t 19)
    (.seq
    (.ops [10, 11] [
      ⟨(.some 10), .mv, [(.c .nils)], none, 0, 0⟩,
      ⟨(.some 11), .mv, [(.c (.bool false))], none, 0, 0⟩])
    .ret)
    .skip))
theorem q21 : c21 =
  (.seq
  (.ops [0, 1, 2, 3, 4] [
    ⟨(.some 10), .mv, [(.c .nils)], none, 0, 0⟩,
    ⟨(.some 11), .mv, [(.c (.bool false))], none, 0, 0⟩])
  (.seq
  (.ops [0, 1, 2, 3, 4, 12] [
    ⟨(.some 15), .mv, [(.t 4)], none, 0, 0⟩,
    ⟨(.some 16), .len, [(.t 15)], none, 0, 0⟩,
    ⟨(.some 17), (.arith .sub), [(.t 16), (.c (.int .i64 32))], none, 0, 0⟩,
    ⟨(.some 12), .mv, [(.t 17)], none, 0, 0⟩])
  (.seq d21_1 d21_2))) := rfl
/-- (*rill/names.Names).Sum -/
def c22_2 : ACode :=
  (.seq
  (.ops [4, 5, 7] [
    ⟨(.some 7), (.alloc (List.replicate 32 (.int .u8 0))), [], none, 0, 0⟩])
  (.seq
  (.seq
  (.ops [4, 5, 7, 34] [
    ⟨(.some 34), .mv, [(.c (.int .i64 0))], none, 0, 0⟩])
  (.block 0
    (.loop [4, 5, 7, 34]
      (.seq
      (.ops [4, 5, 7, 34, 35] [
        ⟨(.some 35), (.cmp .lss), [(.t 34), (.c (.int .i64 32))], none, 0, 0⟩])
      (.seq
      (.cond (.t 35)
        .skip
        (.exit 0))
      (.seq
      (.block 1
        (.seq
        (.ops [4, 5, 7, 8, 34] [
          ⟨(.some 36), .mv, [(.t 34)], none, 0, 0⟩,
          ⟨(.some 8), .mv, [(.t 36)], none, 0, 0⟩])
        (.ops [4, 5, 7, 34] [
          ⟨(.some 37), .mv, [(.t 8)], none, 0, 0⟩,
          ⟨(.some 38), (.idxAddrArr 32 1), [(.t 7), (.t 37)], none, 0, 0⟩,
          ⟨none, (.store 1), [(.t 38), (.c (.int .u8 1))], none, 0, 0⟩])))
      (.ops [4, 5, 7, 34] [
        ⟨(.some 39), (.arith .add), [(.t 34), (.c (.int .i64 1))], none, 0, 0⟩,
        ⟨(.some 34), .mv, [(.t 39)], none, 0, 0⟩])))))))
  (.seq
  (.drawn [4, 7] [
    ⟨(.some 40), (.sliceArr 32 1 true false false), [(.t 7), (.c (.int .i64 24))], none, 0, 1⟩,
    ⟨(.some 41), .mv, [(.t 5)], none, 0, 0⟩,
    ⟨(.some 42), (.call 33), [(.t 41)], none, 0, 1⟩,
    ⟨(.some 43), (.copy 1), [(.t 40), (.t 42)], none, 1, 2⟩])
  (.seq
  (.ops [4] [
    ⟨(.some 44), (.load true 32), [(.t 7)], none, 0, 0⟩,
    ⟨none, (.store 32), [(.t 4), (.t 44)], none, 0, 0⟩])
  .ret))))
def c22_1 : ACode :=
  (.seq
  (.ops [0, 1, 4, 5, 20] [
    ⟨(.some 19), .mv, [(.t 6)], none, 0, 0⟩,
    ⟨(.some 20), .not, [(.t 19)], none, 0, 0⟩])
  (.cond (.t 20)
    (.seq
    (.ops [0, 1, 4, 5] [
      ⟨(.some 21), .mv, [(.t 0)], none, 0, 0⟩,
      ⟨(.some 22), .nilCheck, [(.t 21)], none, 0, 0⟩,
      ⟨(.some 23), (.fieldAddr 2), [(.t 22)], none, 0, 0⟩,
      ⟨(.some 24), (.load false 1), [(.t 23)], none, 0, 0⟩,
      ⟨(.some 25), .lenMap, [(.t 24)], none, 0, 0⟩,
      ⟨(.some 26), (.arith .add), [(.t 25), (.c (.int .i64 1))], none, 0, 0⟩,
      ⟨(.some 5), .mv, [(.t 26)], none, 0, 0⟩])
    (.drawn [4, 5] [
      ⟨(.some 27), .mv, [(.t 0)], none, 0, 0⟩,
      ⟨(.some 28), .nilCheck, [(.t 27)], none, 0, 0⟩,
      ⟨(.some 29), (.fieldAddr 2), [(.t 28)], none, 0, 0⟩,
      ⟨(.some 30), (.load false 1), [(.t 29)], none, 0, 0⟩,
      ⟨(.some 31), .mv, [(.t 1)], none, 0, 0⟩,
      ⟨(.some 32), .b2s, [(.t 31)], none, 0, 0⟩,
      ⟨(.some 33), .mv, [(.t 5)], none, 0, 0⟩,
      ⟨none, (.mapSet (.one .s)), [(.t 30), (.t 32), (.t 33)], none, 0, 1⟩]))
    .skip))
theorem p22 : c22 =
  (.seq
  (.ops [0, 1, 4] [
    ⟨(.some 4), (.alloc (List.replicate 32 (.int .u8 0))), [], none, 0, 0⟩])
  (.seq
  (.drawn [0, 1, 4, 5, 6] [
    ⟨(.some 10), .mv, [(.t 0)], none, 0, 0⟩,
    ⟨(.some 11), .nilCheck, [(.t 10)], none, 0, 0⟩,
    ⟨(.some 12), (.fieldAddr 2), [(.t 11)], none, 0, 0⟩,
    ⟨(.some 13), (.load false 1), [(.t 12)], none, 0, 0⟩,
    ⟨(.some 14), .mv, [(.t 1)], none, 0, 0⟩,
    ⟨(.some 15), .b2s, [(.t 14)], none, 0, 0⟩,
    ⟨(.some 16), (.lookup (.one .s) (.int .i64 0) true), [(.t 13), (.t 15)], none, 0, 0⟩,
    ⟨(.some 9), .mv, [(.t 16)], none, 0, 0⟩,
    ⟨(.some 17), (.extract 0), [(.t 9)], none, 0, 0⟩,
    ⟨(.some 18), (.extract 1), [(.t 9)], none, 0, 0⟩,
    ⟨(.some 5), .mv, [(.t 17)], none, 0, 0⟩,
    ⟨(.some 6), .mv, [(.t 18)], none, 0, 0⟩])
  (.seq c22_1 c22_2))) := rfl
/-- (*rill/rillref06.Names).Sum -/
def c23_2 : ACode :=
  (.seq
  (.ops [4, 5, 7] [
    ⟨(.some 7), (.alloc (List.replicate 32 (.int .u8 0))), [], none, 0, 0⟩])
  (.seq
  (.ops [4, 7, 8] [
    ⟨(.some 49), .mv, [(.t 5)], none, 0, 0⟩,
    ⟨(.some 50), (.call 38), [(.t 49)], none, 0, 0⟩,
    ⟨(.some 8), .mv, [(.t 50)], none, 0, 0⟩])
  (.seq
  (.seq
  (.ops [4, 7, 8, 9] [
    ⟨(.some 9), .mv, [(.c (.int .i64 0))], none, 0, 0⟩])
  (.block 2
    (.loop [4, 7, 8, 9]
      (.seq
      (.seq
      (.ops [4, 7, 8, 9, 52] [
        ⟨(.some 51), .mv, [(.t 9)], none, 0, 0⟩,
        ⟨(.some 52), (.cmp .lss), [(.t 51), (.c (.int .i64 24))], none, 0, 0⟩])
      (.cond (.t 52)
        .skip
        (.exit 2)))
      (.seq
      (.block 3
        (.ops [4, 7, 8, 9] [
          ⟨(.some 55), .mv, [(.t 9)], none, 0, 0⟩,
          ⟨(.some 56), (.idxAddrArr 32 1), [(.t 7), (.t 55)], none, 0, 0⟩,
          ⟨none, (.store 1), [(.t 56), (.c (.int .u8 1))], none, 0, 0⟩]))
      (.ops [4, 7, 8, 9] [
        ⟨(.some 53), .mv, [(.t 9)], none, 0, 0⟩,
        ⟨(.some 54), (.arith .add), [(.t 53), (.c (.int .i64 1))], none, 0, 0⟩,
        ⟨(.some 9), .mv, [(.t 54)], none, 0, 0⟩]))))))
  (.seq
  (.seq
  (.ops [4, 7, 8, 10] [
    ⟨(.some 10), .mv, [(.c (.int .i64 0))], none, 0, 0⟩])
  (.block 4
    (.loop [4, 7, 8, 10]
      (.seq
      (.seq
      (.ops [4, 7, 8, 10, 58] [
        ⟨(.some 57), .mv, [(.t 10)], none, 0, 0⟩,
        ⟨(.some 58), (.cmp .lss), [(.t 57), (.c (.int .i64 8))], none, 0, 0⟩])
      (.cond (.t 58)
        .skip
        (.exit 4)))
      (.seq
      (.block 5
        (.ops [4, 7, 8, 10] [
          ⟨(.some 61), .mv, [(.t 10)], none, 0, 0⟩,
          ⟨(.some 62), (.arith .add), [(.c (.int .i64 24)), (.t 61)], none, 0, 0⟩,
          ⟨(.some 63), .mv, [(.t 8)], none, 0, 0⟩,
          ⟨(.some 64), .mv, [(.t 10)], none, 0, 0⟩,
          ⟨(.some 65), (.idxAddr 1), [(.t 63), (.t 64)], none, 0, 0⟩,
          ⟨(.some 66), (.load false 1), [(.t 65)], none, 0, 0⟩,
          ⟨(.some 67), (.idxAddrArr 32 1), [(.t 7), (.t 62)], none, 0, 0⟩,
          ⟨none, (.store 1), [(.t 67), (.t 66)], none, 0, 0⟩]))
      (.ops [4, 7, 8, 10] [
        ⟨(.some 59), .mv, [(.t 10)], none, 0, 0⟩,
        ⟨(.some 60), (.arith .add), [(.t 59), (.c (.int .i64 1))], none, 0, 0⟩,
        ⟨(.some 10), .mv, [(.t 60)], none, 0, 0⟩]))))))
  (.seq
  (.ops [4] [
    ⟨(.some 68), (.load true 32), [(.t 7)], none, 0, 0⟩,
    ⟨none, (.store 32), [(.t 4), (.t 68)], none, 0, 0⟩])
  .ret)))))
def c23_1 : ACode :=
  (.seq
  (.ops [0, 1, 4, 5, 32] [
    ⟨(.some 31), .mv, [(.t 5)], none, 0, 0⟩,
    ⟨(.some 32), (.eq false .int), [(.t 31), (.c (.int .i64 0))], none, 0, 0⟩])
  (.cond (.t 32)
    (.seq
    (.drawn [0, 4] [
      ⟨(.some 33), .mv, [(.t 0)], none, 0, 2⟩,
      ⟨(.some 34), .mv, [(.t 0)], none, 0, 1⟩,
      ⟨(.some 35), .nilCheck, [(.t 34)], none, 0, 1⟩,
      ⟨(.some 36), (.fieldAddr 1), [(.t 35)], none, 0, 1⟩,
      ⟨(.some 37), (.load false 1), [(.t 36)], none, 0, 1⟩,
      ⟨(.some 38), .mv, [(.t 1)], none, 0, 0⟩,
      ⟨(.some 39), (.call 30), [(.t 38)], none, 0, 1⟩,
      ⟨(.some 40), (.mkSl 1 [.nils] [(0, 1)]), [(.t 39)], none, 1, 1⟩,
      ⟨(.some 41), (.append 1 24), [(.t 37), (.t 40)], none, 1, 2⟩,
      ⟨(.some 42), .nilCheck, [(.t 33)], none, 2, 2⟩,
      ⟨(.some 43), (.fieldAddr 1), [(.t 42)], none, 2, 2⟩,
      ⟨none, (.store 1), [(.t 43), (.t 41)], none, 2, 3⟩])
    (.ops [4, 5] [
      ⟨(.some 44), .mv, [(.t 0)], none, 0, 0⟩,
      ⟨(.some 45), .nilCheck, [(.t 44)], none, 0, 0⟩,
      ⟨(.some 46), (.fieldAddr 1), [(.t 45)], none, 0, 0⟩,
      ⟨(.some 47), (.load false 1), [(.t 46)], none, 0, 0⟩,
      ⟨(.some 48), .len, [(.t 47)], none, 0, 0⟩,
      ⟨(.some 5), .mv, [(.t 48)], none, 0, 0⟩]))
    .skip))
theorem p23 : c23 =
  (.seq
  (.ops [0, 1, 4] [
    ⟨(.some 4), (.alloc (List.replicate 32 (.int .u8 0))), [], none, 0, 0⟩])
  (.seq
  (.ops [0, 1, 4, 5] [
    ⟨(.some 5), .mv, [(.c (.int .i64 0))], none, 0, 0⟩])
  (.seq
  (.seq
  (.ops [0, 1, 4, 5, 6] [
    ⟨(.some 6), .mv, [(.c (.int .i64 0))], none, 0, 0⟩])
  (.block 0
    (.loop [0, 1, 4, 5, 6]
      (.seq
      (.seq
      (.ops [0, 1, 4, 5, 6, 17] [
        ⟨(.some 11), .mv, [(.t 6)], none, 0, 0⟩,
        ⟨(.some 12), .mv, [(.t 0)], none, 0, 0⟩,
        ⟨(.some 13), .nilCheck, [(.t 12)], none, 0, 0⟩,
        ⟨(.some 14), (.fieldAddr 1), [(.t 13)], none, 0, 0⟩,
        ⟨(.some 15), (.load false 1), [(.t 14)], none, 0, 0⟩,
        ⟨(.some 16), .len, [(.t 15)], none, 0, 0⟩,
        ⟨(.some 17), (.cmp .lss), [(.t 11), (.t 16)], none, 0, 0⟩])
      (.cond (.t 17)
        .skip
        (.exit 0)))
      (.seq
      (.block 1
        (.seq
        (.ops [0, 1, 4, 5, 6, 28] [
          ⟨(.some 20), .mv, [(.t 0)], none, 0, 0⟩,
          ⟨(.some 21), .nilCheck, [(.t 20)], none, 0, 0⟩,
          ⟨(.some 22), (.fieldAddr 1), [(.t 21)], none, 0, 0⟩,
          ⟨(.some 23), (.load false 1), [(.t 22)], none, 0, 0⟩,
          ⟨(.some 24), .mv, [(.t 6)], none, 0, 0⟩,
          ⟨(.some 25), (.idxAddr 1), [(.t 23), (.t 24)], none, 0, 0⟩,
          ⟨(.some 26), (.load false 1), [(.t 25)], none, 0, 0⟩,
          ⟨(.some 27), .mv, [(.t 1)], none, 0, 0⟩,
          ⟨(.some 28), (.call 18), [(.t 26), (.t 27)], none, 0, 0⟩])
        (.cond (.t 28)
          (.ops [0, 1, 4, 5, 6] [
            ⟨(.some 29), .mv, [(.t 6)], none, 0, 0⟩,
            ⟨(.some 30), (.arith .add), [(.t 29), (.c (.int .i64 1))], none, 0, 0⟩,
            ⟨(.some 5), .mv, [(.t 30)], none, 0, 0⟩])
          .skip)))
      (.ops [0, 1, 4, 5, 6] [
        ⟨(.some 18), .mv, [(.t 6)], none, 0, 0⟩,
        ⟨(.some 19), (.arith .add), [(.t 18), (.c (.int .i64 1))], none, 0, 0⟩,
        ⟨(.some 6), .mv, [(.t 19)], none, 0, 0⟩]))))))
  (.seq c23_1 c23_2)))) := rfl
end Go.Proofs.Ytodkgembfcddbaa
end
section
/- What the statements of all layers share: lists of bytes. -/
namespace Go.Proofs.Ytodkgembfcddbaa
open Go Go.Adm
set_option linter.unusedSimpArgs false
set_option maxRecDepth 100000

def lent (l : List B8) : List B8 := tab (l.length + 5) fun j => if j < l.length then gb l j else 165#8
theorem lent_len (l : List B8) : (lent l).length = l.length + 5 := tab_len _ _
theorem gb_eq_of {a b : List B8} (hl : a.length = b.length) : (∀ i, i < a.length → gb a i = gb b i) → a = b := gb_ext hl
theorem ans_samebytes {m : Mem} {x y : AV} {a b : List B8} (hx : RdB m x a) (hy : RdB m y b) (hl : a.length < 1152921504606846976) : Ans Try.prog 18 [x, y] m fun r m' => r = .bool (a == b) ∧ m' = m := by
  refine ans_ret mixed ok18 ?_
  by_cases h : a.length = b.length
  · have h' : ((a.length : Int) == (b.length : Int)) = true := by rw [h]; simp
    simp -implicitDefEqProofs (disch := (first | omega | (simp only [lenB, lent_len] <;> omega) | fail)) only [admQ, lenB, lent_len, aFill, AK.cls, implies_true, ↓reduceIte, reduceCtorEq, if_true, if_false, Nat.reduceAdd, Nat.reduceEqDiff, Nat.reduceMod, Nat.reduceLT, Nat.reduceLeDiff, Nat.reduceSub, Nat.reduceMul, Nat.reduceBEq, Int.reduceAdd, Int.reduceSub, Int.reduceMul, Int.reduceNeg, Int.reduceLT, Int.reduceLE, Int.reduceToNat, Int.reduceEq, Int.reduceBEq, c18, r18, hx.len, hy.len, h']
    refine LoopW.on (fun i : Nat => [(0, x), (1, y), (5, .int .i64 i)]) (fun i => a.length - i) (fun i m' => m' = m ∧ i ≤ a.length ∧ ∀ j, j < i → gb a j = gb b j) ?_ 0 _ _ rfl ⟨rfl, by omega, fun j hj => by omega⟩
    rintro i _ X ⟨rfl, hi, hj⟩ hX
    by_cases hlt : i < a.length
    · obtain ⟨b1, o1, cap1, s1, c1, rfl, hr1, hg1, hl1, hc1, hs1, ht1⟩ := hx.cons hlt
      obtain ⟨b2, o2, cap2, s2, c2, rfl, hr2, hg2, hl2, hc2, hs2, ht2⟩ := hy.cons (by omega : i < b.length)
      have e1 := hg1 i hlt
      have e2 := hg2 i (by omega)
      cases he : gb a i == gb b i
      · have hne : (a == b) = false := by
          rw [beq_eq_false_iff_ne]; rintro rfl; simp at he
        simp -implicitDefEqProofs (disch := (first | omega | (simp only [lenB, lent_len] <;> omega) | fail)) only [admQ, lenB, lent_len, aFill, AK.cls, implies_true, ↓reduceIte, reduceCtorEq, if_true, if_false, Nat.reduceAdd, Nat.reduceEqDiff, Nat.reduceMod, Nat.reduceLT, Nat.reduceLeDiff, Nat.reduceSub, Nat.reduceMul, Nat.reduceBEq, Int.reduceAdd, Int.reduceSub, Int.reduceMul, Int.reduceNeg, Int.reduceLT, Int.reduceLE, Int.reduceToNat, Int.reduceEq, Int.reduceBEq, hr1, hr2, e1, e2, he, hne]
      · simp -implicitDefEqProofs (disch := (first | omega | (simp only [lenB, lent_len] <;> omega) | fail)) only [admQ, lenB, lent_len, aFill, AK.cls, implies_true, ↓reduceIte, reduceCtorEq, if_true, if_false, Nat.reduceAdd, Nat.reduceEqDiff, Nat.reduceMod, Nat.reduceLT, Nat.reduceLeDiff, Nat.reduceSub, Nat.reduceMul, Nat.reduceBEq, Int.reduceAdd, Int.reduceSub, Int.reduceMul, Int.reduceNeg, Int.reduceLT, Int.reduceLE, Int.reduceToNat, Int.reduceEq, Int.reduceBEq, hr1, hr2, e1, e2, he]
        refine hX (i + 1) _ _ rfl (by omega) ⟨rfl, by omega, fun j hj2 => ?_⟩
        by_cases hji : j = i
        · subst hji; simpa using he
        · exact hj j (by omega)
    · have he : (a == b) = true := by rw [beq_iff_eq]; exact gb_ext h fun j hj2 => hj j (by omega)
      simp -implicitDefEqProofs (disch := (first | omega | (simp only [lenB, lent_len] <;> omega) | fail)) only [admQ, lenB, lent_len, aFill, AK.cls, implies_true, ↓reduceIte, reduceCtorEq, if_true, if_false, Nat.reduceAdd, Nat.reduceEqDiff, Nat.reduceMod, Nat.reduceLT, Nat.reduceLeDiff, Nat.reduceSub, Nat.reduceMul, Nat.reduceBEq, Int.reduceAdd, Int.reduceSub, Int.reduceMul, Int.reduceNeg, Int.reduceLT, Int.reduceLE, Int.reduceToNat, Int.reduceEq, Int.reduceBEq, hx.len, he]
  · have h' : ((a.length : Int) == (b.length : Int)) = false := by rw [beq_eq_false_iff_ne]; omega
    have he : (a == b) = false := by rw [beq_eq_false_iff_ne]; rintro rfl; exact h rfl
    simp -implicitDefEqProofs (disch := (first | omega | (simp only [lenB, lent_len] <;> omega) | fail)) only [admQ, lenB, lent_len, aFill, AK.cls, implies_true, ↓reduceIte, reduceCtorEq, if_true, if_false, Nat.reduceAdd, Nat.reduceEqDiff, Nat.reduceMod, Nat.reduceLT, Nat.reduceLeDiff, Nat.reduceSub, Nat.reduceMul, Nat.reduceBEq, Int.reduceAdd, Int.reduceSub, Int.reduceMul, Int.reduceNeg, Int.reduceLT, Int.reduceLE, Int.reduceToNat, Int.reduceEq, Int.reduceBEq, c18, r18, hx.len, hy.len, h', he]

theorem lent_take (l : List B8) : (lent l).take l.length = l := by
  apply gb_ext
  · simp [lent_len]
  · intro i hi
    simp only [List.length_take, lent_len] at hi
    simp only [gb, List.getD_eq_getElem?_getD, List.getElem?_take_of_lt (show i < l.length by omega), lent, tab_get _ (show i < l.length + 5 by omega), if_pos (show i < l.length by omega), Option.getD_some]
theorem ans_lentbytes {m : Mem} {x : AV} {l : List B8} (hx : RdB m x l) (hl : l.length < 1099511627000) : Ans Try.prog 15 [x] m fun r m' => ∃ p, r = .sl p 0 (l.length + 5) (l.length + 5) 0 ∧ Kept [] m m' ∧ m.length ≤ p ∧ own m' p = some (bys (lent l)) := by
  refine ans_ret mixed ok15 ?_
  have hmk : (0 : Int) ≤ ((l.length + 5 : Nat) : Int) ∧ ((l.length + 5 : Nat) : Int) ≤ ((l.length + 5 : Nat) : Int) ∧ ((l.length + 5 : Nat) : Int) * 1 ≤ 1099511627776 ∧ ((l.length + 5 : Nat) : Int) ≤ 1099511627776 := by omega
  simp -implicitDefEqProofs (disch := (first | omega | (simp only [lenB, lent_len] <;> omega) | fail)) only [admQ, lenB, lent_len, aFill, AK.cls, implies_true, ↓reduceIte, reduceCtorEq, if_true, if_false, Nat.reduceAdd, Nat.reduceEqDiff, Nat.reduceMod, Nat.reduceLT, Nat.reduceLeDiff, Nat.reduceSub, Nat.reduceMul, Nat.reduceBEq, Int.reduceAdd, Int.reduceSub, Int.reduceMul, Int.reduceNeg, Int.reduceLT, Int.reduceLE, Int.reduceToNat, Int.reduceEq, Int.reduceBEq, c15, r15, hx.len]
  have hr : rep (l.length + 5) [AV.int .u8 0] = bys (List.replicate (l.length + 5) 0#8) := by rw [← bys_rep]; simp [rep]
  simp -implicitDefEqProofs (disch := (first | omega | (simp only [lenB, lent_len] <;> omega) | fail)) only [admQ, lenB, lent_len, aFill, AK.cls, implies_true, ↓reduceIte, reduceCtorEq, if_true, if_false, Nat.reduceAdd, Nat.reduceEqDiff, Nat.reduceMod, Nat.reduceLT, Nat.reduceLeDiff, Nat.reduceSub, Nat.reduceMul, Nat.reduceBEq, Int.reduceAdd, Int.reduceSub, Int.reduceMul, Int.reduceNeg, Int.reduceLT, Int.reduceLE, Int.reduceToNat, Int.reduceEq, Int.reduceBEq, hr]
  let f : Nat → B8 := fun j => if j < l.length then gb l j else 165#8
  refine LoopW.on (fun i : Nat => [(0, x), (3, .sl m.length 0 (l.length + 5) (l.length + 5) 0), (4, .int .i64 i)]) (fun i => l.length + 5 - i) (fun i m' => i ≤ l.length + 5 ∧ m' = m ++ [.row (bys (upTo (l.length + 5) f (fun _ => 0#8) i)) false]) ?_ 0 _ _ rfl ⟨by omega, by rw [upTo_zero, tab_const]⟩
  rintro i m' X ⟨hi, rfl⟩ hX
  by_cases hlt : i < l.length + 5
  · have hxA := hx.app [.row (bys ((upTo (l.length + 5) f (fun _ => 0#8) i).set i 165#8)) false]
    have hsp : splice (bys (upTo (l.length + 5) f (fun _ => 0#8) i)) i [.int .u8 165] = _ := splice_byte (l := upTo (l.length + 5) f (fun _ => 0#8) i) (i := i) (x := 165#8) (by rw [upTo_len]; exact hlt)
    have hu : (upTo (l.length + 5) f (fun _ => 0#8) i).set i (f i) = _ := upTo_set
    by_cases h2 : i < l.length
    · obtain ⟨b, o, cap, s, c, rfl, hr1, hg1, _⟩ := hxA.cons h2
      have e1 := hg1 i h2
      have hf : f i = gb l i := if_pos h2
      rw [hf] at hu
      have hss : ((upTo (l.length + 5) f (fun _ => 0#8) i).set i 165#8).set i (gb l i) = upTo (l.length + 5) f (fun _ => 0#8) (i + 1) := by rw [List.set_set]; exact hu
      clear_value f
      simp -implicitDefEqProofs (disch := (first | omega | (simp only [lenB, lent_len] <;> omega) | fail)) only [admQ, lenB, lent_len, aFill, AK.cls, implies_true, ↓reduceIte, reduceCtorEq, if_true, if_false, Nat.reduceAdd, Nat.reduceEqDiff, Nat.reduceMod, Nat.reduceLT, Nat.reduceLeDiff, Nat.reduceSub, Nat.reduceMul, Nat.reduceBEq, Int.reduceAdd, Int.reduceSub, Int.reduceMul, Int.reduceNeg, Int.reduceLT, Int.reduceLE, Int.reduceToNat, Int.reduceEq, Int.reduceBEq, hx.len, hsp, hr1, e1, splice_byte, hss]
      exact hX (i + 1) _ _ rfl (by omega) ⟨by omega, rfl⟩
    · have hf : f i = 165#8 := if_neg h2
      rw [hf] at hu
      clear_value f
      simp -implicitDefEqProofs (disch := (first | omega | (simp only [lenB, lent_len] <;> omega) | fail)) only [admQ, lenB, lent_len, aFill, AK.cls, implies_true, ↓reduceIte, reduceCtorEq, if_true, if_false, Nat.reduceAdd, Nat.reduceEqDiff, Nat.reduceMod, Nat.reduceLT, Nat.reduceLeDiff, Nat.reduceSub, Nat.reduceMul, Nat.reduceBEq, Int.reduceAdd, Int.reduceSub, Int.reduceMul, Int.reduceNeg, Int.reduceLT, Int.reduceLE, Int.reduceToNat, Int.reduceEq, Int.reduceBEq, hx.len, hsp, hu]
      exact hX (i + 1) _ _ rfl (by omega) ⟨by omega, rfl⟩
  · obtain rfl : i = l.length + 5 := by omega
    have hu : upTo (l.length + 5) f (fun _ => 0#8) (l.length + 5) = lent l := upTo_all _ _ _
    simp -implicitDefEqProofs (disch := (first | omega | (simp only [lenB, lent_len] <;> omega) | fail)) only [admQ, lenB, lent_len, aFill, AK.cls, implies_true, ↓reduceIte, reduceCtorEq, if_true, if_false, Nat.reduceAdd, Nat.reduceEqDiff, Nat.reduceMod, Nat.reduceLT, Nat.reduceLeDiff, Nat.reduceSub, Nat.reduceMul, Nat.reduceBEq, Int.reduceAdd, Int.reduceSub, Int.reduceMul, Int.reduceNeg, Int.reduceLT, Int.reduceLE, Int.reduceToNat, Int.reduceEq, Int.reduceBEq, hu]
    exact ⟨m.length, rfl, .app _ _ _, by omega, by simp -implicitDefEqProofs (disch := (first | omega | (simp only [lenB, lent_len] <;> omega) | fail)) only [admQ, lenB, lent_len, aFill, AK.cls, implies_true, ↓reduceIte, reduceCtorEq, if_true, if_false, Nat.reduceAdd, Nat.reduceEqDiff, Nat.reduceMod, Nat.reduceLT, Nat.reduceLeDiff, Nat.reduceSub, Nat.reduceMul, Nat.reduceBEq, Int.reduceAdd, Int.reduceSub, Int.reduceMul, Int.reduceNeg, Int.reduceLT, Int.reduceLE, Int.reduceToNat, Int.reduceEq, Int.reduceBEq]⟩
theorem ans_keptbytes {m : Mem} {x y : AV} {a l : List B8} (hx : RdB m x a) (hy : RdB m y l) (hl : l.length < 1152921504606846976) : Ans Try.prog 24 [x, y] m fun r m' => r = .bool (a == lent l) ∧ m' = m := by
  refine ans_ret mixed ok24 ?_
  by_cases h : a.length = l.length + 5
  · obtain ⟨b1, o1, cap1, s1, c1, rfl, hr1, hg1, hl1, hc1, hs1, ht1⟩ := hx.cons (show 0 < a.length by omega)
    have h' : ((a.length : Int) == ((l.length + 5 : Nat) : Int)) = true := by rw [h]; simp
    simp -implicitDefEqProofs (disch := (first | omega | (simp only [lenB, lent_len] <;> omega) | fail)) only [admQ, lenB, lent_len, aFill, AK.cls, implies_true, ↓reduceIte, reduceCtorEq, if_true, if_false, Nat.reduceAdd, Nat.reduceEqDiff, Nat.reduceMod, Nat.reduceLT, Nat.reduceLeDiff, Nat.reduceSub, Nat.reduceMul, Nat.reduceBEq, Int.reduceAdd, Int.reduceSub, Int.reduceMul, Int.reduceNeg, Int.reduceLT, Int.reduceLE, Int.reduceToNat, Int.reduceEq, Int.reduceBEq, c24, r24, hx.len, hy.len, h']
    refine (ans_samebytes (hx.take (k := l.length) (by omega)) hy (by simp; omega)).mono ?_
    rintro _ m1 ⟨rfl, rfl⟩
    cases he : a.take l.length == l
    · have hne : (a == lent l) = false := by
        rw [beq_eq_false_iff_ne]; rintro rfl; rw [lent_take] at he; simp at he
      simp -implicitDefEqProofs (disch := (first | omega | (simp only [lenB, lent_len] <;> omega) | fail)) only [admQ, lenB, lent_len, aFill, AK.cls, implies_true, ↓reduceIte, reduceCtorEq, if_true, if_false, Nat.reduceAdd, Nat.reduceEqDiff, Nat.reduceMod, Nat.reduceLT, Nat.reduceLeDiff, Nat.reduceSub, Nat.reduceMul, Nat.reduceBEq, Int.reduceAdd, Int.reduceSub, Int.reduceMul, Int.reduceNeg, Int.reduceLT, Int.reduceLE, Int.reduceToNat, Int.reduceEq, Int.reduceBEq, hne]
    · simp -implicitDefEqProofs (disch := (first | omega | (simp only [lenB, lent_len] <;> omega) | fail)) only [admQ, lenB, lent_len, aFill, AK.cls, implies_true, ↓reduceIte, reduceCtorEq, if_true, if_false, Nat.reduceAdd, Nat.reduceEqDiff, Nat.reduceMod, Nat.reduceLT, Nat.reduceLeDiff, Nat.reduceSub, Nat.reduceMul, Nat.reduceBEq, Int.reduceAdd, Int.reduceSub, Int.reduceMul, Int.reduceNeg, Int.reduceLT, Int.reduceLE, Int.reduceToNat, Int.reduceEq, Int.reduceBEq, hy.len]
      refine LoopW.on (fun i : Nat => [(0, .sl b1 o1 a.length cap1 s1), (5, .int .i64 i)]) (fun i => a.length - i) (fun i m' => m' = m1 ∧ i ≤ a.length ∧ l.length ≤ i ∧ ∀ j, j < i → gb a j = gb (lent l) j) ?_ l.length _ _ rfl ⟨rfl, by omega, by omega, fun j hj => ?_⟩
      · rintro i _ X ⟨rfl, hi, hi2, hj⟩ hX
        by_cases hlt : i < a.length
        · have e1 := hg1 i hlt
          have e2 : gb (lent l) i = 165#8 := by rw [lent, gb_tab _ (by omega), if_neg (by omega)]
          cases he2 : gb a i == 165#8
          · have hne : (a == lent l) = false := by
              rw [beq_eq_false_iff_ne]; rintro rfl; rw [e2] at he2; simp at he2
            simp -implicitDefEqProofs (disch := (first | omega | (simp only [lenB, lent_len] <;> omega) | fail)) only [admQ, lenB, lent_len, aFill, AK.cls, implies_true, ↓reduceIte, reduceCtorEq, if_true, if_false, Nat.reduceAdd, Nat.reduceEqDiff, Nat.reduceMod, Nat.reduceLT, Nat.reduceLeDiff, Nat.reduceSub, Nat.reduceMul, Nat.reduceBEq, Int.reduceAdd, Int.reduceSub, Int.reduceMul, Int.reduceNeg, Int.reduceLT, Int.reduceLE, Int.reduceToNat, Int.reduceEq, Int.reduceBEq, hr1, e1, beql_u8 (show 165 < 2 ^ 8 by decide), he2, hne]
          · simp -implicitDefEqProofs (disch := (first | omega | (simp only [lenB, lent_len] <;> omega) | fail)) only [admQ, lenB, lent_len, aFill, AK.cls, implies_true, ↓reduceIte, reduceCtorEq, if_true, if_false, Nat.reduceAdd, Nat.reduceEqDiff, Nat.reduceMod, Nat.reduceLT, Nat.reduceLeDiff, Nat.reduceSub, Nat.reduceMul, Nat.reduceBEq, Int.reduceAdd, Int.reduceSub, Int.reduceMul, Int.reduceNeg, Int.reduceLT, Int.reduceLE, Int.reduceToNat, Int.reduceEq, Int.reduceBEq, hr1, e1, beql_u8 (show 165 < 2 ^ 8 by decide), he2]
            refine hX (i + 1) _ _ rfl (by omega) ⟨rfl, by omega, by omega, fun j hj2 => ?_⟩
            by_cases hji : j = i
            · subst hji; rw [e2]; simpa using he2
            · exact hj j (by omega)
        · have he2 : (a == lent l) = true := by rw [beq_iff_eq]; exact gb_ext (by rw [lent_len]; omega) fun j hj2 => hj j (by omega)
          simp -implicitDefEqProofs (disch := (first | omega | (simp only [lenB, lent_len] <;> omega) | fail)) only [admQ, lenB, lent_len, aFill, AK.cls, implies_true, ↓reduceIte, reduceCtorEq, if_true, if_false, Nat.reduceAdd, Nat.reduceEqDiff, Nat.reduceMod, Nat.reduceLT, Nat.reduceLeDiff, Nat.reduceSub, Nat.reduceMul, Nat.reduceBEq, Int.reduceAdd, Int.reduceSub, Int.reduceMul, Int.reduceNeg, Int.reduceLT, Int.reduceLE, Int.reduceToNat, Int.reduceEq, Int.reduceBEq, he2]
      · rw [beq_iff_eq] at he
        have e1 : gb a j = gb l j := by rw [← he]; simp [gb, List.getElem?_take_of_lt hj]
        rw [e1, lent, gb_tab _ (by omega), if_pos hj]
  · have h' : ((a.length : Int) == ((l.length + 5 : Nat) : Int)) = false := by rw [beq_eq_false_iff_ne]; omega
    have he : (a == lent l) = false := by rw [beq_eq_false_iff_ne]; rintro rfl; exact h (lent_len l)
    simp -implicitDefEqProofs (disch := (first | omega | (simp only [lenB, lent_len] <;> omega) | fail)) only [admQ, lenB, lent_len, aFill, AK.cls, implies_true, ↓reduceIte, reduceCtorEq, if_true, if_false, Nat.reduceAdd, Nat.reduceEqDiff, Nat.reduceMod, Nat.reduceLT, Nat.reduceLeDiff, Nat.reduceSub, Nat.reduceMul, Nat.reduceBEq, Int.reduceAdd, Int.reduceSub, Int.reduceMul, Int.reduceNeg, Int.reduceLT, Int.reduceLE, Int.reduceToNat, Int.reduceEq, Int.reduceBEq, c24, r24, hx.len, hy.len, h', he]
def spoil (l : List B8) : List B8 := tab l.length fun j => gb l j ^^^ 90#8
theorem ans_spoilbytes {m : Mem} {p cap s : Nat} {l : List B8} (hp : own m p = some (bys l)) (hl : l.length < 1152921504606846976) : Ans Try.prog 19 [.sl p 0 l.length cap s] m fun r m' => r = .tup [] ∧ m' = m.set p (.row (bys (spoil l)) false) := by
  refine ans_ret mixed ok19 ?_
  simp -implicitDefEqProofs (disch := (first | omega | (simp only [lenB, lent_len] <;> omega) | fail)) only [admQ, lenB, lent_len, aFill, AK.cls, implies_true, ↓reduceIte, reduceCtorEq, if_true, if_false, Nat.reduceAdd, Nat.reduceEqDiff, Nat.reduceMod, Nat.reduceLT, Nat.reduceLeDiff, Nat.reduceSub, Nat.reduceMul, Nat.reduceBEq, Int.reduceAdd, Int.reduceSub, Int.reduceMul, Int.reduceNeg, Int.reduceLT, Int.reduceLE, Int.reduceToNat, Int.reduceEq, Int.reduceBEq, c19, r19]
  let f : Nat → B8 := fun j => gb l j ^^^ 90#8
  refine LoopW.on (fun i : Nat => [(0, .sl p 0 l.length cap s), (2, .int .i64 i)]) (fun i => l.length - i) (fun i m' => i ≤ l.length ∧ m' = m.set p (.row (bys (upTo l.length f (gb l) i)) false)) ?_ 0 _ _ rfl ⟨by omega, ?_⟩
  · rintro i m' X ⟨hi, rfl⟩ hX
    have ho := own_set (own_lt hp) (bys (upTo l.length f (gb l) i))
    by_cases hlt : i < l.length
    · have hu : (upTo l.length f (gb l) i).set i (gb l i ^^^ 90#8) = _ := upTo_set (f := f)
      clear_value f
      simp -implicitDefEqProofs (disch := (first | omega | (simp only [lenB, lent_len] <;> omega) | fail)) only [admQ, lenB, lent_len, aFill, AK.cls, implies_true, ↓reduceIte, reduceCtorEq, if_true, if_false, Nat.reduceAdd, Nat.reduceEqDiff, Nat.reduceMod, Nat.reduceLT, Nat.reduceLeDiff, Nat.reduceSub, Nat.reduceMul, Nat.reduceBEq, Int.reduceAdd, Int.reduceSub, Int.reduceMul, Int.reduceNeg, Int.reduceLT, Int.reduceLE, Int.reduceToNat, Int.reduceEq, Int.reduceBEq, ho, rowOf_own ho, splice_byte, hu, List.set_set]
      exact hX (i + 1) _ _ rfl (by omega) ⟨by omega, rfl⟩
    · obtain rfl : i = l.length := by omega
      have hu : upTo l.length f (gb l) l.length = spoil l := upTo_all _ _ _
      simp -implicitDefEqProofs (disch := (first | omega | (simp only [lenB, lent_len] <;> omega) | fail)) only [admQ, lenB, lent_len, aFill, AK.cls, implies_true, ↓reduceIte, reduceCtorEq, if_true, if_false, Nat.reduceAdd, Nat.reduceEqDiff, Nat.reduceMod, Nat.reduceLT, Nat.reduceLeDiff, Nat.reduceSub, Nat.reduceMul, Nat.reduceBEq, Int.reduceAdd, Int.reduceSub, Int.reduceMul, Int.reduceNeg, Int.reduceLT, Int.reduceLE, Int.reduceToNat, Int.reduceEq, Int.reduceBEq, hu]
  · rw [upTo_zero, tab_gb rfl, set_same hp]
end Go.Proofs.Ytodkgembfcddbaa
end
