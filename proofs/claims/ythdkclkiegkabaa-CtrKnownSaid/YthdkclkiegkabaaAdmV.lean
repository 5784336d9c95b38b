/- Arguments: lists of structs and of arrays of integers. -/
import Derived.Test.YthdkclkiegkabaaAdmU
namespace Go.Adm
open Go.ChangeShapes Go.WideShapes Go.ChangeAt Go.RowKit
section
variable {H : Type} {enc : TypeId × Value → H} {P : Program} {W : World}

/-- What values stand for plain cells, wherever blocks lie. -/
def Plain (l : List AV) (cs : List Value) : Prop := l.length = cs.length ∧ l.all AV.flat = true ∧ ∀ (j : Nat) (v : AV) (v' : Value), l[j]? = some v → cs[j]? = some v' → ∀ ρ, VR ρ v v'

theorem Plain.one {v : AV} {c : Value} (hf : v.flat = true) (h : ∀ ρ, VR ρ v c) : Plain [v] [c] :=
  ⟨rfl, by simp [hf], fun j v1 v2 h1 h2 => by
    cases j with
    | zero => simp at h1 h2; subst h1; subst h2; exact h
    | succ j => simp at h1⟩
theorem Plain.nil : Plain [] [] := ⟨rfl, rfl, fun _ _ _ h => nomatch h⟩
theorem Plain.append {l1 l2 : List AV} {c1 c2 : List Value} (h1 : Plain l1 c1) (h2 : Plain l2 c2) : Plain (l1 ++ l2) (c1 ++ c2) := by
  refine ⟨by simp [h1.1, h2.1], by rw [List.all_append, h1.2.1, h2.2.1]; rfl, fun j v v' g1 g2 => ?_⟩
  by_cases hj : j < l1.length
  · rw [List.getElem?_append_left hj] at g1
    rw [List.getElem?_append_left (by rw [← h1.1]; exact hj)] at g2
    exact h1.2.2 j v v' g1 g2
  · rw [List.getElem?_append_right (by omega)] at g1
    rw [List.getElem?_append_right (by have := h1.1; omega), ← h1.1] at g2
    exact h2.2.2 _ v v' g1 g2

def intGo (P : Program) (f : TypeId → Option (List IntKind)) : Nat → List Field → Option (List IntKind)
  | _, [] => some []
  | off, x :: r => (f x.type).bind fun ks => if x.offset = off ∧ P.cellsOf x.type = ks.length then (intGo P f (off + ks.length) r).map (ks ++ ·) else none
/-- A type whose cells are all integers: their kinds. -/
def intCells (P : Program) : Nat → TypeId → Option (List IntKind)
  | 0, _ => none
  | d + 1, t =>
    match P.underlying t with
    | some (.int k) => some [k]
    | some (.array n e) => (intCells P d e).bind fun ks => if P.cellsOf e = ks.length ∧ P.cellsOf t = n * ks.length then some ((List.replicate n ks).flatten) else none
    | some (.struct fs) => (intGo P (intCells P d) 0 fs.toList).bind fun ks => if P.cellsOf t = ks.length then some ks else none
    | _ => none

def Ints (ks : List IntKind) (ns : List Int) : List AV := List.zipWith (fun k n => .int k n) ks ns
theorem Ints.append (k1 k2 : List IntKind) (n1 n2 : List Int) (h : k1.length = n1.length) : Ints (k1 ++ k2) (n1 ++ n2) = Ints k1 n1 ++ Ints k2 n2 := by
  unfold Ints; rw [List.zipWith_append h]
theorem Ints.length {ks : List IntKind} {ns : List Int} (h : ns.length = ks.length) : (Ints ks ns).length = ks.length := by
  unfold Ints; simp [h]

/-- Reads as integers: each in its kind's bounds. -/
structure Reads (ks : List IntKind) (cs : List Value) (ns : List Int) : Prop where
  len : ns.length = ks.length
  wf : ∀ (i : Nat) (k : IntKind) (n : Int), ks[i]? = some k → ns[i]? = some n → (Lit.int k n).wf = true
  pl : Plain (Ints ks ns) cs
theorem Reads.append {k1 k2 : List IntKind} {c1 c2 : List Value} {n1 n2 : List Int} (h1 : Reads k1 c1 n1) (h2 : Reads k2 c2 n2) : Reads (k1 ++ k2) (c1 ++ c2) (n1 ++ n2) := by
  refine ⟨by simp [h1.len, h2.len], fun i k n hk hn => ?_, by rw [Ints.append _ _ _ _ h1.len.symm]; exact h1.pl.append h2.pl⟩
  by_cases hi : i < k1.length
  · rw [List.getElem?_append_left hi] at hk
    rw [List.getElem?_append_left (by rw [h1.len]; exact hi)] at hn
    exact h1.wf i k n hk hn
  · rw [List.getElem?_append_right (by omega)] at hk
    rw [List.getElem?_append_right (by rw [h1.len]; omega), h1.len] at hn
    exact h2.wf _ k n hk hn

theorem reads_of_trod {base : Nat} {spare : Nat → Bool} {held : Bool} : ∀ (d : Nat) (t : TypeId) (ks : List IntKind) (fuel : Nat) (cs : List Value) (x : DataW H × List MemPlace),
    intCells P d t = some ks → DataW.trod enc P W base spare held fuel t cs = some x → ∃ ns, Reads ks cs ns := by
  intro d
  induction d with
  | zero => intro t ks fuel cs x h; simp [intCells] at h
  | succ d ih =>
    intro t ks fuel cs x h hx
    unfold intCells at h
    split at h
    · rename_i k ht
      cases h
      obtain ⟨n, rfl, _, hw⟩ := DataW.trod_int ht hx
      refine ⟨[n], rfl, fun i k' n' hk hn => ?_, .one rfl fun ρ => .int _ _⟩
      cases i with
      | zero => simp at hk hn; subst hk; subst hn; exact hw
      | succ i => simp at hk
    · rename_i n e ht
      obtain ⟨xs, m, rfl, rfl, hlen, hxs, hel⟩ := DataW.trod_array ht hx
      simp only [Option.bind_eq_some_iff] at h
      obtain ⟨ke, he, h⟩ := h
      split at h
      · rename_i hc
        cases h
        rw [hc.1] at hel
        have key : ∀ j, j ≤ n → ∃ ns, Reads ((List.replicate j ke).flatten) (cs.take (j * ke.length)) ns := by
          intro j
          induction j with
          | zero => intro _; exact ⟨[], by simp, fun i k n h => by simp at h, by simpa [Ints] using Plain.nil⟩
          | succ j ihj =>
            intro hj
            obtain ⟨ns, hns⟩ := ihj (by omega)
            have h1 := hel j (by omega)
            obtain ⟨y, hy⟩ : ∃ y, xs[j]? = some y := ⟨_, List.getElem?_eq_getElem (by omega)⟩
            rw [hy] at h1
            obtain ⟨ns', hns'⟩ := ih e ke m _ y he h1
            have e1 : (List.replicate (j + 1) ke).flatten = (List.replicate j ke).flatten ++ ke := by
              rw [List.replicate_succ', List.flatten_append]; simp
            have e2 : cs.take ((j + 1) * ke.length) = cs.take (j * ke.length) ++ (cs.drop (j * ke.length)).take ke.length := by
              rw [Nat.add_mul, Nat.one_mul, List.take_add]
            rw [e1, e2]
            exact ⟨_, hns.append hns'⟩
        obtain ⟨ns, hns⟩ := key n (Nat.le_refl _)
        rw [List.take_of_length_le (by rw [hlen, hc.2]; exact Nat.le_refl _)] at hns
        exact ⟨ns, hns⟩
      · cases h
    · rename_i fs ht
      obtain ⟨xs, m, rfl, rfl, hlen, hxs, hel⟩ := DataW.trod_struct ht hx
      simp only [Option.bind_eq_some_iff] at h
      obtain ⟨kg, hg, h⟩ := h
      split at h
      · rename_i hc
        cases h
        have key : ∀ (r : List Field) (i off : Nat) (kr : List IntKind), (∀ (j : Nat) (f : Field), r[j]? = some f → fs[i + j]? = some f) → intGo P (intCells P d) off r = some kr → ∃ ns, Reads kr ((cs.drop off).take kr.length) ns := by
          intro r
          induction r with
          | nil => intro i off kr _ h; simp only [intGo, Option.some.injEq] at h; subst h; exact ⟨[], rfl, (fun i k n h => nomatch h), by simpa [Ints] using Plain.nil⟩
          | cons f r ihr =>
            intro i off kr hr h
            simp only [intGo, Option.bind_eq_some_iff] at h
            obtain ⟨kf, hf, h⟩ := h
            split at h
            · rename_i hc2
              simp only [Option.map_eq_some_iff] at h
              obtain ⟨k2, h2, rfl⟩ := h
              have hfi := hr 0 f rfl
              simp only [Nat.add_zero] at hfi
              have h1 := hel i f hfi
              have hi : i < fs.size := (Array.getElem?_eq_some_iff.mp hfi).1
              obtain ⟨y, hy⟩ : ∃ y, xs[i]? = some y := ⟨_, List.getElem?_eq_getElem (by omega)⟩
              rw [hy, hc2.1, hc2.2] at h1
              obtain ⟨n1, hn1⟩ := ih f.type kf m _ y hf h1
              obtain ⟨n2, hn2⟩ := ihr (i + 1) (off + kf.length) k2 (fun j f' hj => by have := hr (j + 1) f' (by simpa using hj); rwa [show i + (j + 1) = i + 1 + j by omega] at this) h2
              have e2 : (cs.drop off).take (kf ++ k2).length = (cs.drop off).take kf.length ++ (cs.drop (off + kf.length)).take k2.length := by
                rw [List.length_append, List.take_add, List.drop_drop]
              rw [e2]
              exact ⟨_, hn1.append hn2⟩
            · cases h
        obtain ⟨ns, hns⟩ := key fs.toList 0 0 ks (fun j f hj => by simpa using hj) hg
        rw [List.drop_zero, List.take_of_length_le (by rw [hlen, hc]; exact Nat.le_refl _)] at hns
        exact ⟨ns, hns⟩
      · cases h
    · cases h

theorem flat_at {α : Type} {f : α → List AV} {k : Nat} {l : List α} (h : ∀ x ∈ l, (f x).length = k) (i : Nat) (v : AV) (hv : (l.flatMap f)[i]? = some v) :
    ∃ (x : α) (q r : Nat), l[q]? = some x ∧ r < k ∧ i = q * k + r ∧ (f x)[r]? = some v := by
  induction l generalizing i with
  | nil => simp at hv
  | cons a l ih =>
    rw [List.flatMap_cons] at hv
    have ha := h a (by simp)
    by_cases hi : i < k
    · rw [List.getElem?_append_left (by omega)] at hv
      exact ⟨a, 0, i, rfl, hi, by omega, hv⟩
    · rw [List.getElem?_append_right (by omega), ha] at hv
      obtain ⟨x, q, r, e1, e2, e3, e4⟩ := ih (fun x hx => h x (by simp [hx])) (i - k) hv
      refine ⟨x, q + 1, r, by simpa using e1, e2, ?_, e4⟩
      rw [Nat.add_mul]; omega

/-- A list of rows of integers, as an argument: nil, or a slice of a block. -/
def IsRows (ks : List IntKind) (nss : List (List Int)) (x : AV) (m : Mem) : Prop :=
  (x = .nils ∧ nss = []) ∨ ∃ b cap, x = .sl b 0 nss.length cap 0 ∧ rowOf m b = some (nss.flatMap (Ints ks))

theorem Opens.rows {r : Reach} {b0 : Nat} {t e : TypeId} {d0 : Nat} {ks : List IntKind} {v : Value} {d : DataW H} {ps : List MemPlace} (ht : P.underlying t = some (.slice e)) (he : intCells P d0 e = some ks) (hc : P.cellsOf e = ks.length) (hpos : 0 < ks.length)
    (hval : Value.okWide P W r b0 t v) (h : DataW.Trod enc P W 0 (fun _ => true) true t v d ps) :
    ∃ nss : List (List Int), (∀ ns ∈ nss, ns.length = ks.length ∧ ∀ (i : Nat) (k : IntKind) (n : Int), ks[i]? = some k → ns[i]? = some n → (Lit.int k n).wf = true) ∧ Opens W (IsRows ks nss) v := by
  obtain ⟨a, len, cap, rfl⟩ := okWide_slice ht hval
  obtain ⟨fuel, hf⟩ := h
  rcases DataW.trod_slice ht hf with ⟨hcs, _⟩ | ⟨x, l, c, elems, rest, n, _, hcs, _, _, hl, hm, hlen, hel, hsp, hns⟩
  · simp [Value.cells] at hcs
    obtain ⟨rfl, rfl, rfl⟩ := hcs
    exact ⟨[], by simp, fun m ρ hs => ⟨[], ρ, .nils, by simpa using hs, .refl _, .nils, fun _ => .inl ⟨rfl, rfl⟩⟩⟩
  · simp [Value.cells] at hcs
    obtain ⟨rfl, rfl, rfl⟩ := hcs
    obtain ⟨h1, h2⟩ := okWide_slice_at ht hval
    rw [hc] at hel hsp
    have cell : ∀ i, i < len → ∃ (ns : List Int) (cs : List Value), W.cells? 0 (x.add (i * ks.length)) ks.length = some cs ∧ Reads ks cs ns := by
      intro i hi
      have h := hel i hi
      obtain ⟨y, hy⟩ : ∃ y, elems[i]? = some y := ⟨_, List.getElem?_eq_getElem (by omega)⟩
      rw [hy, Option.bind_eq_some_iff] at h
      obtain ⟨cs, hcs, htr⟩ := h
      obtain ⟨ns, hns⟩ := reads_of_trod d0 e ks n cs y he htr
      exact ⟨ns, cs, hcs, hns⟩
    have build : ∀ j, j ≤ len → ∃ nss : List (List Int), nss.length = j ∧ ∀ i, i < j → ∃ (ns : List Int) (cs : List Value), nss[i]? = some ns ∧ W.cells? 0 (x.add (i * ks.length)) ks.length = some cs ∧ Reads ks cs ns := by
      intro j
      induction j with
      | zero => intro _; exact ⟨[], rfl, fun i hi => by omega⟩
      | succ j ihj =>
        intro hj
        obtain ⟨nss, e1, e2⟩ := ihj (by omega)
        obtain ⟨ns, cs, g1, g2⟩ := cell j (by omega)
        refine ⟨nss ++ [ns], by simp [e1], fun i hi => ?_⟩
        by_cases hij : i < j
        · obtain ⟨ns', cs', f1, f2, f3⟩ := e2 i hij
          exact ⟨ns', cs', by rw [List.getElem?_append_left (by omega)]; exact f1, f2, f3⟩
        · obtain rfl : i = j := by omega
          exact ⟨ns, cs, by rw [List.getElem?_append_right (by omega), e1]; simp, g1, g2⟩
    obtain ⟨nss, en, hnss⟩ := build len (Nat.le_refl _)
    have rd : ∀ (i : Nat) (ns : List Int), nss[i]? = some ns → ∃ cs, W.cells? 0 (x.add (i * ks.length)) ks.length = some cs ∧ Reads ks cs ns := by
      intro i ns hi
      obtain ⟨ns', cs, f1, f2, f3⟩ := hnss i (by have := lt_of_get hi; omega)
      rw [hi] at f1; cases f1
      exact ⟨cs, f2, f3⟩
    have hrl : ∀ ns ∈ nss, ns.length = ks.length := fun ns hn => by
      obtain ⟨i, hi⟩ := List.getElem?_of_mem hn
      obtain ⟨cs, _, hr⟩ := rd i ns hi
      exact hr.len
    refine ⟨nss, fun ns hn => ?_, fun m ρ hs => ?_⟩
    · obtain ⟨i, hi⟩ := List.getElem?_of_mem hn
      obtain ⟨cs, _, hr⟩ := rd i ns hi
      exact ⟨hr.len, hr.wf⟩
    · have hadd : ∀ i j, (x.add (i * ks.length)).add j = x.add (i * ks.length + j) := by
        intro i j
        cases x; simp only at h1; subst h1
        unfold Addr.add
        split <;> split <;> split <;> simp_all <;> omega
      have hcell : ∀ (i : Nat) (v : AV), (nss.flatMap (Ints ks))[i]? = some v → ∃ v', W.cell? (x.add i) = some v' ∧ VR ρ v v' := by
        intro i v hv
        obtain ⟨ns, q, r, f1, f2, rfl, f3⟩ := flat_at (fun ns hn => Ints.length (hrl ns hn)) i v hv
        obtain ⟨cs, c1, c2⟩ := rd q ns f1
        obtain ⟨_, q1, q2⟩ := World.cells?_some c1
        have := q2 r f2
        rw [hadd, List.getElem?_eq_getElem (by omega)] at this
        exact ⟨_, this, c2.pl.2.2 r v _ f3 (List.getElem?_eq_getElem (by omega)) ρ⟩
      obtain ⟨ρ', g1, g2, g3⟩ := hs.slice (cells := nss.flatMap (Ints ks)) h1 h2 hl
        (by rw [List.all_flatMap, List.all_eq_true]; intro ns hn; obtain ⟨i, hi⟩ := List.getElem?_of_mem hn; obtain ⟨cs, _, hr⟩ := rd i ns hi; exact hr.pl.2.1)
        (fun hc0 => by have : nss = [] := List.length_eq_zero_iff.mp (by omega); subst this; rfl)
        (fun hc0 => by
          by_cases hl0 : 0 < len
          · obtain ⟨ns, cs, g1, _⟩ := cell 0 hl0
            obtain ⟨_, q1, q2⟩ := World.cells?_some g1
            have := q2 0 hpos
            rw [hadd, Nat.zero_mul, Nat.zero_add] at this
            exact ⟨cs[0]'(by omega), by rw [this]; exact List.getElem?_eq_getElem _⟩
          · obtain ⟨hrl, hr⟩ := hsp rfl
            have h := hr 0 (by omega)
            obtain ⟨y, hy⟩ : ∃ y, rest[0]? = some y := ⟨_, List.getElem?_eq_getElem (by omega)⟩
            rw [hy, Option.bind_eq_some_iff] at h
            obtain ⟨cs, hcs, _⟩ := h
            obtain ⟨_, q1, q2⟩ := World.cells?_some hcs
            have := q2 0 hpos
            rw [hadd, show (len + 0) * ks.length + 0 = 0 by have : len = 0 := by omega
                                                            subst this; simp] at this
            exact ⟨cs[0]'(by omega), by rw [this]; exact List.getElem?_eq_getElem _⟩)
        hcell
      refine ⟨_, ρ', _, g1, g2, g3, fun e' => .inr ⟨m.length, cap, by rw [en], ?_⟩⟩
      simp [rowOf]
end
end Go.Adm
