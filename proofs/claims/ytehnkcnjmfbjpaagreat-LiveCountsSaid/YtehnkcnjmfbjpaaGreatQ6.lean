/- Texts of this seat, joined (part 6 of 6): an abstract memory for Go programs, this seat's functions as abstract code, and what each of them does. -/
import Derived.Test.YtehnkcnjmfbjpaaGreatQ5
set_option linter.unusedSimpArgs false
set_option linter.defProp false
section
namespace Go.Proofs.YtehnkcnjmfbjpaaGreat
open Go Go.Adm
set_option linter.unusedSimpArgs false
set_option linter.unusedVariables false
set_option maxRecDepth 100000
theorem intB_numI {v : Int} (h : -9223372036854775808 ≤ v ∧ v < 9223372036854775808) (hv : 0 ≤ v) : intB (numI v) = v := by
 obtain ⟨n, rfl⟩ := Int.eq_ofNat_of_zero_le hv
 rw [numI_nat (by omega)]
 exact intB_num (by omega)
theorem blkO_put {b : Nat} (hb : b < 64) {data : List B8} (hd : data.length = 32) : blkO (puP b data) = some ((b : Int), data) := by
 have h1 : (puP (b : Int) data).take 8 = numI b := List.take_left' (numI_len _)
 have h2 : (puP (b : Int) data).drop 8 = data := List.drop_left' (numI_len _)
 have h3 := intB_numI (v := b) (by omega) (by omega)
 rw [blkO, h1, h2, h3, if_pos ⟨by rw [puP, List.length_append, numI_len, hd], by omega, by omega⟩]
theorem flatMap_drop {α : Type} (f : α → List B8) (n : Nat) (hf : ∀ a, (f a).length = n) : ∀ (l : List α) (j : Nat) (a : α), l[j]? = some a → ((l.flatMap f).drop (n * j)).take n = f a := by
 intro l
 induction l with
 | nil => intro j a h; simp at h
 | cons x l ih =>
  intro j a h
  rw [List.flatMap_cons]
  cases j with
  | zero =>
   simp only [List.getElem?_cons_zero, Option.some.injEq] at h
   subst h
   rw [Nat.mul_zero, List.drop_zero]; exact List.take_left' (hf _)
  | succ j =>
   have e : n * (j + 1) = (f x).length + n * j := by rw [hf, Nat.mul_succ, Nat.add_comm]
   rw [e, ← List.drop_drop, List.drop_left]
   exact ih j a (by simpa using h)
theorem pg_back {i : Int} {p : Pg} (h : pgOk i p) (hp : p.length = 8) : pgGE (pgB i p) = 0 ∧ pgGI (pgB i p) = i := by
 have hB : pgB i p = numI i ++ p.flatMap refB := if_pos h
 have hfl : ∀ l : List Rf, (l.flatMap refB).length = 40 * l.length := by
  intro l
  induction l with
  | nil => rfl
  | cons r l ih => rw [List.flatMap_cons, List.length_append, ih, refB_len, List.length_cons]; omega
 have hl : (pgB i p).length = 328 := by rw [hB, List.length_append, numI_len, hfl, hp]
 have h8 : (pgB i p).take 8 = numI i := by rw [hB]; exact List.take_left' (numI_len _)
 have hi : intB (numI i) = i := intB_numI (by have := h.2; omega) h.2.1
 have hd : ∀ k, (pgB i p).drop (8 + k) = (p.flatMap refB).drop k := fun k => by rw [← List.drop_drop, hB, List.drop_left' (numI_len _)]
 have hR : pgR (pgB i p) = p := by
  apply List.ext_getElem (by simp [pgR, tab_len, hp])
  intro j h1 h2
  have hj : j < 8 := by simpa [pgR, tab_len] using h1
  simp only [pgR, tab, List.getElem_map, List.getElem_range]
  have e1 := flatMap_drop refB 40 refB_len p j p[j] (List.getElem?_eq_getElem h2)
  have e2 : ((pgB i p).drop (8 + 40 * j)).take 8 = numI (p[j]).at_ := by
   rw [hd]
   have := congrArg (List.take 8) e1
   rw [List.take_take] at this
   rw [show Min.min 8 40 = 8 from rfl] at this
   rw [this, refB]
   exact List.take_left' (numI_len _)
  have e3 : ((pgB i p).drop (16 + 40 * j)).take 32 = (p[j]).sum.1 := by
   rw [show 16 + 40 * j = 8 + (8 + 40 * j) by omega, hd]
   have := congrArg (List.drop 8) e1
   rw [List.drop_take, List.drop_drop] at this
   rw [show 40 - 8 = 32 from rfl, Nat.add_comm (40 * j) 8] at this
   rw [this, refB]
   exact List.drop_left' (numI_len _)
  rw [e2, e3]
  have hat : intB (numI (p[j]).at_) = (p[j]).at_ := by
   by_cases hz : p[j] = Rf.zero
   ·rw [hz]; exact intB_numI (v := 0) (by omega) (by omega)
   ·have := h.1 _ (List.getElem_mem h2) hz
    exact intB_numI (by omega) (by omega)
  have hsm : smT (p[j]).sum.1 = (p[j]).sum := dif_pos (p[j]).sum.2
  rw [hat, hsm]
 have hE : pgGE (pgB i p) = 0 := by
  rw [pgGE, if_neg (by omega), if_neg (by omega), h8, hi, hR, if_pos h]
 exact ⟨hE, by rw [pgGI, if_pos hE, h8, hi]⟩
def secOf (seg slot : Int) : Int := 3 + seg * 32 + slot
theorem at_in {v : Vl} (hg : v.w.g = gS) {seg slot : Int} (h1 : 0 ≤ seg ∧ seg ≤ 17) (h2 : 0 ≤ slot ∧ slot ≤ 31) : atG v.w.g seg slot = secOf seg slot := by rw [hg]; exact atG_gS h1 h2
theorem at_no {seg slot : Int} (h : ¬ ((0 ≤ seg ∧ seg ≤ 17) ∧ 0 ≤ slot ∧ slot ≤ 31)) : atG gS seg slot = 0 := by
 rw [atG, if_neg]
 rintro ⟨-, ⟨h1, h2⟩, h3, h4⟩
 have h2 : seg ≤ 18 - 1 := h2
 have h4 : slot ≤ 32 - 1 := h4
 omega
section
variable {x x' : Pt} {seg slot : Int} {a : Int}
theorem whO_block (ha : atG x.v.w.g seg slot = a) (h0 : a ≠ 0) {b : Nat} (hb : b < 64) {data : List B8} (hd : data.length = 32) (hs : Stored x.v.d x.v.c a 4 (puP b data)) : whO x seg slot = some ⟨4, b, ⟨a, smOf x.v.c (peekD x.v.d a)⟩, data⟩ := by
 obtain ⟨h1, h2, h3, -⟩ := hs.get
 rw [whO, ha, if_neg h0, h1, if_neg (by simp [h2]), if_pos rfl, h3, blkO_put hb hd]
 rfl
theorem whO_node (ha : atG x.v.w.g seg slot = a) (h0 : a ≠ 0) {i : Int} {pg : Pg} (hp : pgOk i pg) (hl : pg.length = 8) (hs : Stored x.v.d x.v.c a 5 (pgB i pg)) : whO x seg slot = some ⟨5, i, ⟨a, smOf x.v.c (peekD x.v.d a)⟩, []⟩ := by
 obtain ⟨h1, h2, h3, -⟩ := hs.get
 obtain ⟨g1, g2⟩ := pg_back hp hl
 rw [whO, ha, if_neg h0, h1, if_neg (by simp [h2]), if_neg (by decide), h3, if_pos ⟨rfl, g1⟩, g2]
theorem getE_nil (c : CyS) (a : Int) : getE c 0 a [] ≠ 0 := by
 rw [getE, if_pos (by simp)]; decide
theorem whO_nil (ha : atG x.v.w.g seg slot = a) (hs : peekD x.v.d a = []) : whO x seg slot = none := by
 rw [whO, ha]
 split
 ·rfl
 ·rw [hs]
  have hk : kindB [] = 0 := rfl
  rw [hk, if_pos (getE_nil _ _)]
theorem whO_out (ha : atG x.v.w.g seg slot = 0) : whO x seg slot = none := by rw [whO, if_pos ha]
theorem whO_same (hg : x'.v.w.g = x.v.w.g) (ha : atG x.v.w.g seg slot = a) (hs : (∃ k p, Stored x.v.d x.v.c a k p) ∨ peekD x.v.d a = []) (hp : peekD x'.v.d a = peekD x.v.d a) (hc : CyUp x.v.c x'.v.c) : whO x' seg slot = whO x seg slot := by
 rcases hs with ⟨k, p, hs⟩ | hs
 ·by_cases h0 : a = 0
  ·rw [whO_out (x := x) (by rw [ha, h0]), whO_out (x := x') (by rw [hg, ha, h0])]
  ·have hs' : Stored x'.v.d x'.v.c a k p := hs.step hp hc.has hc.kn
   obtain ⟨h1, h2, h3, -, h4, -⟩ := hs.get
   obtain ⟨g1, g2, g3, -⟩ := hs'.get
   have hsm : smOf x'.v.c (peekD x'.v.d a) = smOf x.v.c (peekD x.v.d a) := by
    rw [hp]; exact Subtype.ext (hc.sm _ h4)
   have e : whO x seg slot = if k = 4 then (blkO (getS x.v.c 4 a (peekD x.v.d a)).p).map fun q => ⟨4, q.1, ⟨a, smOf x.v.c (peekD x.v.d a)⟩, q.2⟩ else if k = 5 ∧ pgGE (getS x.v.c 5 a (peekD x.v.d a)).p = 0 then some ⟨5, pgGI (getS x.v.c 5 a (peekD x.v.d a)).p, ⟨a, smOf x.v.c (peekD x.v.d a)⟩, []⟩ else none := by
    rw [whO, ha, if_neg h0, h1, if_neg (by simp [h2])]
   have e' : whO x' seg slot = if k = 4 then (blkO (getS x'.v.c 4 a (peekD x'.v.d a)).p).map fun q => ⟨4, q.1, ⟨a, smOf x'.v.c (peekD x'.v.d a)⟩, q.2⟩ else if k = 5 ∧ pgGE (getS x'.v.c 5 a (peekD x'.v.d a)).p = 0 then some ⟨5, pgGI (getS x'.v.c 5 a (peekD x'.v.d a)).p, ⟨a, smOf x'.v.c (peekD x'.v.d a)⟩, []⟩ else none := by
    rw [whO, hg, ha, if_neg h0, g1, if_neg (by simp [g2])]
   rw [e, e', hsm]
   by_cases k4 : k = 4
   ·subst k4; rw [if_pos rfl, if_pos rfl, h3, g3]
   ·rw [if_neg k4, if_neg k4]
    by_cases k5 : k = 5
    ·subst k5; rw [h3, g3]
    ·rw [if_neg (fun h => k5 h.1), if_neg (fun h => k5 h.1)]
 ·rw [whO_nil ha hs, whO_nil (by rw [hg, ha]) (hp.trans hs)]
variable {last : Nat → List B8}
theorem J.seen (h : J x last) (ha : 3 ≤ a) : (∃ k p, Stored x.v.d x.v.c a k p) ∨ peekD x.v.d a = [] := by
 by_cases h1 : a < 3 + x.v.pos
 ·exact .inl (h.lg.w.st a ha h1)
 ·exact .inr (h.lg.w.un a (by omega))
theorem J.tx (h : J x last) (ha : 3 ≤ a) : cyTr (cyTx x.v.c (peekD x.v.d a)) x.v.w.no.toNat := by
 rcases h.seen ha with ⟨k, p, hs⟩ | hs
 ·rw [cyTx_kn hs.get.2.2.2.2.1]; exact h.lg.w.ct
 ·rw [hs]; exact cyTr_nil h.lg.w.ct
theorem J.mono (h : J x last) {d : Dk} {c : CyS} (hd : CalmD d 579) (hp : ∀ a, peekD d a = peekD x.v.d a) (hc : CyUp x.v.c c) (hk : cyOk c x.v.w.no.toNat) (ht : cyTr c x.v.w.no.toNat) : J ⟨{ x.v with d := d, c := c }, x.t⟩ last := by
 have hx : Ext x.v { x.v with d := d, c := c } := ⟨hc, fun a _ => hp a, Int.le_refl _⟩
 refine ⟨⟨⟨h.lg.w.g, h.lg.w.ep, h.lg.w.seg, h.lg.w.slot, h.lg.w.no, hd, hk, ht, ?_, ?_, h.lg.w.tb⟩, h.lg.s31, h.lg.el, h.lg.ek⟩, h.tr.ext hx⟩
 ·intro a h1 h2
  obtain ⟨k, p, hs⟩ := h.lg.w.st a h1 h2
  exact ⟨k, p, hx.stored hs h2⟩
 ·intro a h1
  show peekD d a = []
  rw [hp]; exact h.lg.w.un a h1
theorem J.look (h : J x last) (seg slot : Int) : J (whT x seg slot) last ∧ (∀ a, peekD (whT x seg slot).v.d a = peekD x.v.d a) ∧ CyUp x.v.c (whT x seg slot).v.c ∧ (whT x seg slot).v.w = x.v.w ∧ (whT x seg slot).v.u = x.v.u ∧ (whT x seg slot).t = x.t := by
 unfold whT
 by_cases h0 : atG x.v.w.g seg slot = 0
 ·rw [if_pos h0]
  exact ⟨h, fun _ => rfl, .refl _, rfl, rfl, rfl⟩
 ·rw [if_neg h0]
  have ha : 3 ≤ atG x.v.w.g seg slot := by
   rw [h.lg.w.g] at h0 ⊢
   by_cases h1 : (0 ≤ seg ∧ seg ≤ 17) ∧ 0 ≤ slot ∧ slot ≤ 31
   ·rw [atG_gS h1.1 h1.2]; omega
   ·exact absurd (at_no h1) h0
  obtain ⟨r1, r2⟩ := h.lg.w.dk.read (atG x.v.w.g seg slot)
  refine ⟨h.mono r1 r2 (.tx _ _) (cyOk_tx h.lg.w.co _) (h.tx ha), r2, .tx _ _, rfl, rfl, rfl⟩
theorem J.alive (h : J x last) (h1 : 0 ≤ seg ∧ seg ≤ 17) (h2 : 0 ≤ slot ∧ slot ≤ 31) {i : Itm} (hi : whO x seg slot = some i) (hb : isB x.t i = true) :
  (∃ b : Nat, b < 64 ∧ x.t.b b ≠ Rf.zero ∧ (x.t.b b).at_ = secOf seg slot ∧ i.k = 4 ∧ i.no = b ∧ i.ref = x.t.b b ∧ i.data = last b) ∨
  ∃ n : Nat, n < 9 ∧ (x.t.n n).st = 1 ∧ 0 < (x.t.n n).ref.at_ ∧ (x.t.n n).ref.at_ = secOf seg slot ∧ i.k = 5 ∧ i.no = n := by
 have ha := at_in h.lg.w.g h1 h2
 have h0 : secOf seg slot ≠ 0 := by unfold secOf; omega
 have href : i.ref.at_ = secOf seg slot := by
  rw [whO, ha, if_neg h0] at hi
  split at hi
  ·cases hi
  ·split at hi
   ·obtain ⟨q, -, rfl⟩ := Option.map_eq_some_iff.mp hi; rfl
   ·split at hi
    ·cases hi; rfl
    ·cases hi
 unfold isB at hb
 by_cases k4 : i.k = 4
 ·rw [if_pos k4, Bool.and_eq_true] at hb
  have z : x.t.at i.no ≠ Rf.zero := by simpa using hb.1
  have e : x.t.at i.no = i.ref := by simpa using hb.2
  have hr : 0 ≤ i.no ∧ i.no < 64 := Classical.byContradiction fun h' => z (x.t.at_out h')
  obtain ⟨b, hb'⟩ := Int.eq_ofNat_of_zero_le hr.1
  have hb6 : b < 64 := by omega
  rw [hb', x.t.at_nat hb6] at e z
  obtain ⟨⟨-, -, g3⟩, g4⟩ := h.tr.bl b hb6 z
  rw [e, href] at g3
  have := whO_block ha h0 hb6 g4 g3
  rw [hi, Option.some.injEq] at this
  refine .inl ⟨b, hb6, z, by rw [e, href], k4, hb', e.symm, by rw [this]⟩
 ·rw [if_neg k4] at hb
  by_cases k5 : i.k = 5
  ·rw [if_pos k5, Bool.and_eq_true, Bool.and_eq_true] at hb
   obtain ⟨⟨b1, b2⟩, b3⟩ := hb
   have b1 : (x.t.node i.no).st = 1 := by simpa [Tr.nodeB] using b1
   have hr := Tr.node_lt b1
   obtain ⟨n, hn⟩ := Int.eq_ofNat_of_zero_le hr.1
   have hn9 : n < 9 := by omega
   have e0 : x.t.node i.no = x.t.n n := by rw [hn]; exact x.t.node_nat (by omega)
   have e1 : x.t.nodeR i.no = (x.t.n n).ref := by rw [Tr.nodeR, if_pos b1, e0]
   rw [e0] at b1
   rw [e1] at b2
   have b2 : (x.t.n n).ref = i.ref := by simpa using b2
   exact .inr ⟨n, hn9, b1, by rw [b2, href]; unfold secOf; omega, by rw [b2, href], k5, hn⟩
  ·rw [if_neg k5] at hb; cases hb
theorem J.block (h : J x last) (h1 : 0 ≤ seg ∧ seg ≤ 17) (h2 : 0 ≤ slot ∧ slot ≤ 31) {b : Nat} (hb : b < 64) (hz : x.t.b b ≠ Rf.zero) (he : (x.t.b b).at_ = secOf seg slot) : whO x seg slot = some ⟨4, b, x.t.b b, last b⟩ ∧ isB x.t ⟨4, b, x.t.b b, last b⟩ = true := by
 have ha := at_in h.lg.w.g h1 h2
 have h0 : secOf seg slot ≠ 0 := by unfold secOf; omega
 obtain ⟨⟨-, g2, g3⟩, g4⟩ := h.tr.bl b hb hz
 rw [he] at g2 g3
 have hr : (⟨secOf seg slot, smOf x.v.c (peekD x.v.d (secOf seg slot))⟩ : Rf) = x.t.b b := by rw [← g2, ← he]
 rw [whO_block ha h0 hb g4 g3, hr]
 refine ⟨rfl, ?_⟩
 unfold isB
 rw [if_pos rfl]
 simp only
 rw [x.t.at_nat hb]
 simpa using hz
theorem J.node (h : J x last) (h1 : 0 ≤ seg ∧ seg ≤ 17) (h2 : 0 ≤ slot ∧ slot ≤ 31) {n : Nat} (hn : n < 9) (hs : (x.t.n n).st = 1) (hp : 0 < (x.t.n n).ref.at_) (he : (x.t.n n).ref.at_ = secOf seg slot) : whO x seg slot = some ⟨5, n, (x.t.n n).ref, []⟩ ∧ isB x.t ⟨5, n, (x.t.n n).ref, []⟩ = true := by
 have ha := at_in h.lg.w.g h1 h2
 have h0 : secOf seg slot ≠ 0 := by unfold secOf; omega
 obtain ⟨pg, ⟨-, g2, g3⟩, g4, g5⟩ := h.tr.node hn hs hp
 rw [he] at g2 g3
 have hr : (⟨secOf seg slot, smOf x.v.c (peekD x.v.d (secOf seg slot))⟩ : Rf) = (x.t.n n).ref := by rw [← g2, ← he]
 rw [whO_node ha h0 g4 g5 g3, hr]
 refine ⟨rfl, ?_⟩
 have hB : isB x.t ⟨5, n, (x.t.n n).ref, []⟩ = (x.t.nodeB n && (x.t.nodeR n == (x.t.n n).ref) && !(x.t.nodeR n == Rf.zero)) := rfl
 rw [hB]
 have e0 : x.t.node (n : Int) = x.t.n n := x.t.node_nat (by omega)
 have hz : (x.t.n n).ref ≠ Rf.zero := fun h => by rw [h] at hp; exact absurd hp (by decide)
 simp only [Tr.nodeB, Tr.nodeR, e0, hs, decide_true, if_true, Bool.true_and, beq_self_eq_true]
 simpa using hz
noncomputable def liveB2 (x : Pt) (seg slot : Int) : Bool := match whO x seg slot with | some i => isB x.t i | none => false
theorem J.live_iff (h : J x last) (h1 : 0 ≤ seg ∧ seg ≤ 17) (h2 : 0 ≤ slot ∧ slot ≤ 31) : liveB2 x seg slot = true ↔ ∃ r ∈ x.t.refs, r.at_ = secOf seg slot := by
 constructor
 ·intro hl
  unfold liveB2 at hl
  split at hl
  ·rename_i i hi
   rcases h.alive h1 h2 hi hl with ⟨b, c1, c2, c3, -⟩ | ⟨n, c1, c2, c3, c4, -⟩
   ·exact ⟨_, refs_mem.mpr (.inl ⟨b, c1, c2, rfl⟩), c3⟩
   ·exact ⟨_, refs_mem.mpr (.inr ⟨n, c1, c2, c3, rfl⟩), c4⟩
  ·cases hl
 ·rintro ⟨r, hr, he⟩
  unfold liveB2
  rcases refs_mem.mp hr with ⟨b, c1, c2, rfl⟩ | ⟨n, c1, c2, c3, rfl⟩
  ·obtain ⟨g1, g2⟩ := h.block h1 h2 c1 c2 he
   rw [g1]; exact g2
  ·obtain ⟨g1, g2⟩ := h.node h1 h2 c1 c2 c3 he
   rw [g1]; exact g2
end
end Go.Proofs.YtehnkcnjmfbjpaaGreat
end
section
namespace Go.Proofs.YtehnkcnjmfbjpaaGreat
open Go Go.Adm
set_option linter.unusedSimpArgs false
set_option linter.unusedVariables false
set_option maxRecDepth 100000
def pickI (k n : Int) : Int := if n < 1 then 0 else if k.tmod n < 0 then k.tmod n + n else k.tmod n
theorem ans_pick (k n : Int) (hn : n ≤ 1000) (m : Mem) : Ans Tryz.prog 8 [.int .i64 k, .int .i64 n] m fun r m' => r = .int .i64 (pickI k n) ∧ m' = m := by
 refine ans_ret mixed ok8 ?_
 unfold pickI
 by_cases h1 : n < 1
 ·simp only [if_pos h1]
  simp -implicitDefEqProofs only [Go.Adm.adm, wantedA, evalAll, AX.eval, AFr.get, AFr.set, AFr.put, AFr.cut, frameOf, AK.loud, pMv, pPick, aPick, pNil, pArith, pShift, pCmp, pEq, pEqAgg, pNot, pNeg, pBnot, pConv, pArrPtr, pSlice, pSliceArr, pFieldAddr, pPart, pIdxAddr, pIdxAddrArr, pIdxArr, pIdxStr, pExtract, pLenStr, pLenArr, pMin, pMax, pIface, aArith, aShift, aCmp, aEq, aEqCk, aEqCells, aPart, bounds, bnd, rLoad, mkAlloc, mkBox, mkMake, rMark, mkS2b, w2, aStore, aFill, cellsV, AV.solid, undefA, resAll, resOne, resVal, pendOk, pastOk, cutCons, List.append_assoc, List.length_append, List.set_cons_zero, List.set_cons_succ, List.singleton_append, List.getElem?_cons_zero, List.getElem?_cons_succ, List.getElem?_nil, implies_true, false_implies, true_implies, Option.bind_some, Option.map_some, Option.bind_none, Option.map_none, Option.isSome_some, if_true, if_false, reduceCtorEq, Nat.reduceAdd, Nat.reduceEqDiff, Nat.reduceMod, Nat.reduceLT, Nat.reduceLeDiff, Nat.reduceSub, Nat.reduceMul, Int.reduceAdd, Int.reduceSub, Int.reduceMul, Int.reduceNeg, Int.reduceLT, Int.reduceLE, Int.reduceToNat, beq_self_eq_true, ↓reduceIte, List.length_nil, List.length_cons, List.take, List.drop, List.nil_append, List.cons_append, List.append_nil, decide_true, decide_false, lqw, c8, r8, h1]
 ·have h0 : ¬ n = 0 := by omega
  have hb := Int.tmod_lt_of_pos k (b := n) (by omega)
  have hb2 := Int.lt_tmod_of_pos k (b := n) (by omega)
  have hw : IntKind.i64.wrap (k.tmod n) = k.tmod n := wrap_i64 (by omega) (by omega)
  simp only [if_neg h1]
  by_cases h2 : k.tmod n < 0
  ·have hw2 : IntKind.i64.wrap (k.tmod n + n) = k.tmod n + n := wrap_i64 (by omega) (by omega)
   simp -implicitDefEqProofs only [Go.Adm.adm, wantedA, evalAll, AX.eval, AFr.get, AFr.set, AFr.put, AFr.cut, frameOf, AK.loud, pMv, pPick, aPick, pNil, pArith, pShift, pCmp, pEq, pEqAgg, pNot, pNeg, pBnot, pConv, pArrPtr, pSlice, pSliceArr, pFieldAddr, pPart, pIdxAddr, pIdxAddrArr, pIdxArr, pIdxStr, pExtract, pLenStr, pLenArr, pMin, pMax, pIface, aArith, aShift, aCmp, aEq, aEqCk, aEqCells, aPart, bounds, bnd, rLoad, mkAlloc, mkBox, mkMake, rMark, mkS2b, w2, aStore, aFill, cellsV, AV.solid, undefA, resAll, resOne, resVal, pendOk, pastOk, cutCons, List.append_assoc, List.length_append, List.set_cons_zero, List.set_cons_succ, List.singleton_append, List.getElem?_cons_zero, List.getElem?_cons_succ, List.getElem?_nil, implies_true, false_implies, true_implies, Option.bind_some, Option.map_some, Option.bind_none, Option.map_none, Option.isSome_some, if_true, if_false, reduceCtorEq, Nat.reduceAdd, Nat.reduceEqDiff, Nat.reduceMod, Nat.reduceLT, Nat.reduceLeDiff, Nat.reduceSub, Nat.reduceMul, Int.reduceAdd, Int.reduceSub, Int.reduceMul, Int.reduceNeg, Int.reduceLT, Int.reduceLE, Int.reduceToNat, beq_self_eq_true, ↓reduceIte, List.length_nil, List.length_cons, List.take, List.drop, List.nil_append, List.cons_append, List.append_nil, decide_true, decide_false, lqw, c8, r8, h1, h0, hw, h2, hw2]
  ·simp -implicitDefEqProofs only [Go.Adm.adm, wantedA, evalAll, AX.eval, AFr.get, AFr.set, AFr.put, AFr.cut, frameOf, AK.loud, pMv, pPick, aPick, pNil, pArith, pShift, pCmp, pEq, pEqAgg, pNot, pNeg, pBnot, pConv, pArrPtr, pSlice, pSliceArr, pFieldAddr, pPart, pIdxAddr, pIdxAddrArr, pIdxArr, pIdxStr, pExtract, pLenStr, pLenArr, pMin, pMax, pIface, aArith, aShift, aCmp, aEq, aEqCk, aEqCells, aPart, bounds, bnd, rLoad, mkAlloc, mkBox, mkMake, rMark, mkS2b, w2, aStore, aFill, cellsV, AV.solid, undefA, resAll, resOne, resVal, pendOk, pastOk, cutCons, List.append_assoc, List.length_append, List.set_cons_zero, List.set_cons_succ, List.singleton_append, List.getElem?_cons_zero, List.getElem?_cons_succ, List.getElem?_nil, implies_true, false_implies, true_implies, Option.bind_some, Option.map_some, Option.bind_none, Option.map_none, Option.isSome_some, if_true, if_false, reduceCtorEq, Nat.reduceAdd, Nat.reduceEqDiff, Nat.reduceMod, Nat.reduceLT, Nat.reduceLeDiff, Nat.reduceSub, Nat.reduceMul, Int.reduceAdd, Int.reduceSub, Int.reduceMul, Int.reduceNeg, Int.reduceLT, Int.reduceLE, Int.reduceToNat, beq_self_eq_true, ↓reduceIte, List.length_nil, List.length_cons, List.take, List.drop, List.nil_append, List.cons_append, List.append_nil, decide_true, decide_false, lqw, c8, r8, h1, h0, hw, h2]
theorem pickI_in (k n : Int) (h : 1 ≤ n) : 0 ≤ pickI k n ∧ pickI k n < n := by
 unfold pickI
 have hb := Int.tmod_lt_of_pos k (b := n) (by omega)
 have hb2 := Int.lt_tmod_of_pos k (b := n) (by omega)
 rw [if_neg (by omega)]
 split <;> omega
def rowB (n : Nat) : List B8 := tab n fun i => BitVec.ofNat 8 (i * 7 + 1)
theorem rowB_len (n : Nat) : (rowB n).length = n := tab_len _ _
def lq11 := And.intro @lenB (And.intro @lowB_len (And.intro @numB_len (And.intro @nsumB_len (And.intro @numI_len (And.intro @Rf.cells_len (@rowB_len))))))
theorem ans_row (n : Nat) (hn : n ≤ 1000000) (m : Mem) : Ans Tryz.prog 41 [.int .i64 n] m fun r m' => ∃ p, r = .sl p 0 n n 0 ∧ Kept [] m m' ∧ m.length ≤ p ∧ own m' p = some (bys (rowB n)) := by
 refine ans_ret mixed ok41 ?_
 have hmk : (0 : Int) ≤ (n : Int) ∧ (n : Int) ≤ (n : Int) ∧ (n : Int) * 1 ≤ 1099511627776 ∧ (n : Int) ≤ 1099511627776 := by omega
 have hmx : (if (n : Int) > 0 then (n : Int) else 0) = (n : Int) := by split <;> omega
 have hr : rep n [AV.int .u8 0] = bys (List.replicate n 0#8) := by rw [← bys_rep]; simp [rep]
 simp -implicitDefEqProofs (disch := (first | omega | (simp only [lq11] <;> omega) | fail)) only [admQ, lq11, aFill, AK.cls, implies_true, if_true, if_false, seval, -List.reduceReplicate, c41, r41, hmx, hr]
 let f : Nat → B8 := fun i => BitVec.ofNat 8 (i * 7 + 1)
 refine LoopW.on (fun i : Nat => [(3, .sl m.length 0 n n 0), (4, .int .i64 i)]) (fun i => n - i) (fun i m' => i ≤ n ∧ m' = m ++ [.row (bys (upTo n f (fun _ => 0#8) i)) false]) ?_ 0 _ _ rfl ⟨by omega, by rw [upTo_zero, tab_const]⟩
 rintro i m' X ⟨hi, rfl⟩ hX
 by_cases hlt : i < n
 ·have hu : (upTo n f (fun _ => 0#8) i).set i (BitVec.ofNat 8 (i * 7 + 1)) = _ := upTo_set (f := f)
  clear_value f
  simp -implicitDefEqProofs (disch := (first | omega | (simp only [lq11] <;> omega) | fail)) only [admQ, lq11, aFill, AK.cls, implies_true, if_true, if_false, seval, -List.reduceReplicate, wrap_u8, splice_byte, hu]
  exact hX (i + 1) _ _ rfl (by omega) ⟨by omega, rfl⟩
 ·obtain rfl : i = n := by omega
  have hu : upTo i f (fun _ => 0#8) i = rowB i := upTo_all _ _ _
  simp -implicitDefEqProofs (disch := (first | omega | (simp only [lq11] <;> omega) | fail)) only [admQ, lq11, aFill, AK.cls, implies_true, if_true, if_false, seval, -List.reduceReplicate, hu]
  exact ⟨m.length, rfl, .app _ _ _, by omega, by simp -implicitDefEqProofs (disch := (first | omega | (simp only [lq11] <;> omega) | fail)) only [admQ, lq11, aFill, AK.cls, implies_true, if_true, if_false, seval, -List.reduceReplicate]⟩
theorem ans_small (m : Mem) : Ans Tryz.prog 26 [] m fun r m' => r = geoV gS ∧ Kept [] m m' := by
 refine ans_ret mixed ok26 ?_
 have h0 : own (m ++ [.row [.int .i64 0, .int .i64 0, .int .i64 0] false]) m.length = some [.int .i64 0, .int .i64 0, .int .i64 0] := by rw [own_app_at0]; rfl
 simp -implicitDefEqProofs (disch := (first | omega | (simp only [lq11] <;> omega) | fail)) only [admQ, lq11, aFill, AK.cls, implies_true, if_true, if_false, seval, -List.reduceReplicate, c26, r26]
 exact ⟨rfl, .app _ _ _⟩
def v0 : Vl := ⟨dk0 579, .nm [] [], (takeM 0 (List.replicate 18 ⟨0, 0, 0⟩)).2.2, ⟨gS, 1, 0, 0, Sm.zero, [], 2⟩⟩
def x0 : Pt := ⟨v0, Tr.new⟩
theorem ans_lvfresh (m : Mem) : Ans Tryz.prog 7 [] m fun r m' => ∃ xp xd xc xu xw xt B V, r = .ptr xp 0 ∧ Kept [] m m' ∧ PtM m' xp xd xc xu xw xt B V x0 ∧ m.length ≤ xp ∧ m.length ≤ xt ∧ ∀ q ∈ B, m.length ≤ q := by
 refine ans_ret mixed ok7 ?_
 simp -implicitDefEqProofs (disch := (first | omega | (simp only [lq11] <;> omega) | fail)) only [admQ, lq11, aFill, AK.cls, implies_true, if_true, if_false, seval, -List.reduceReplicate, c7, r7]
 refine (ans_small m).mono ?_
 rintro _ m1 ⟨rfl, k1⟩
 have hgv : geoV gS = .agg [.int .i64 18, .int .i64 32, .int .i64 4] := rfl
 have hgs := fun M => ans_gsecs gS M
 have hsec : secsG gS = 579 := rfl
 rw [hgv] at hgs ⊢
 rw [hsec] at hgs
 have k2 := Kept.app [] m1 [Blk.row [.int .i64 18, .int .i64 32, .int .i64 4] false]
 have g2 : own (m1 ++ [Blk.row [.int .i64 18, .int .i64 32, .int .i64 4] false]) m1.length = some [.int .i64 18, .int .i64 32, .int .i64 4] := by rw [own_app_at0]; rfl
 simp -implicitDefEqProofs (disch := (first | omega | (simp only [lq11] <;> omega) | fail)) only [admQ, lq11, aFill, AK.cls, implies_true, if_true, if_false, seval, -List.reduceReplicate]
 generalize hA : m1 ++ [Blk.row [.int .i64 18, .int .i64 32, .int .i64 4] false] = A at *
 refine (hgs A).mono ?_
 rintro _ m3 ⟨rfl, k3⟩
 have g3 := k3.own g2 (by simp)
 simp -implicitDefEqProofs (disch := (first | omega | (simp only [lq11] <;> omega) | fail)) only [admQ, lq11, aFill, AK.cls, implies_true, if_true, if_false, seval, -List.reduceReplicate]
 have hdn := ans_dknew 579 (by omega) m3
 refine Ans.mono hdn ?_
 rintro _ m4 ⟨k4, xd, Wd, Rd, rfl, hD, hRd⟩
 have g4 := k4.own g3 (by simp)
 simp -implicitDefEqProofs (disch := (first | omega | (simp only [lq11] <;> omega) | fail)) only [admQ, lq11, aFill, AK.cls, implies_true, if_true, if_false, seval, -List.reduceReplicate]
 refine (ans_nnew m4).mono ?_
 rintro _ m5 ⟨xc, Wc, rfl, k5, hN, hWc⟩
 have g5 := k5.own g4 (by simp)
 simp -implicitDefEqProofs (disch := (first | omega | (simp only [lq11] <;> omega) | fail)) only [admQ, lq11, aFill, AK.cls, implies_true, if_true, if_false, seval, -List.reduceReplicate, rowOf_own g5]
 refine (ans_new 18 m5).mono ?_
 rintro _ m6 ⟨xu, bu, rfl, k6, lu, lb, hT⟩
 have g6 := k6.own g5 (by simp)
 have e18 : (Min.min (Max.max (18 : Int) 0) 32).toNat = 18 := rfl
 rw [e18] at hT
 simp -implicitDefEqProofs (disch := (first | omega | (simp only [lq11] <;> omega) | fail)) only [admQ, lq11, aFill, AK.cls, implies_true, if_true, if_false, seval, -List.reduceReplicate]
 refine (ans_take hT (by simp) 0).mono ?_
 rintro _ m7 ⟨rfl, hp7⟩
 have hT7 := hp7.tab
 have k7 := hp7.kept
 have lg6 := own_lt g6
 have hbl : m1.length < bu := by have := own_lt g5; omega
 have g7 := k7.own g6 (by simp; omega)
 simp -implicitDefEqProofs (disch := (first | omega | (simp only [lq11] <;> omega) | fail)) only [admQ, lq11, aFill, AK.cls, implies_true, if_true, if_false, seval, -List.reduceReplicate, rowOf_own g7]
 refine (ans_trnew m7).mono ?_
 rintro _ m8 ⟨rfl, k8, t8⟩
 have g8 := k8.own g7 (by simp)
 simp -implicitDefEqProofs (disch := (first | omega | (simp only [lq11] <;> omega) | fail)) only [admQ, lq11, aFill, AK.cls, implies_true, if_true, if_false, seval, -List.reduceReplicate, rowOf_own g7, rowOf_own g8]
 have hwn := ans_wnew xd xc xu 83 gS 1 0 0 Sm.zero m8
 refine Ans.mono hwn ?_
 rintro _ m9 ⟨k9, xw, rfl, lw, hw⟩
 have g9 := k9.own g8 (by simp)
 have t9 := k9.own t8 (by simp)
 simp -implicitDefEqProofs (disch := (first | omega | (simp only [lq11] <;> omega) | fail)) only [admQ, lq11, aFill, AK.cls, implies_true, if_true, if_false, seval, -List.reduceReplicate, rowOf_own g7, rowOf_own g8, rowOf_own g9]
 have k10 := Kept.app [] m9 [Blk.row [.ptr xd 0, .iface 83 (.ptr xc 0), .int .i64 18, .int .i64 32, .int .i64 4, .ptr m7.length 0, .ptr xu 0, .ptr xw 0] false]
 have h10 : own (m9 ++ [Blk.row [.ptr xd 0, .iface 83 (.ptr xc 0), .int .i64 18, .int .i64 32, .int .i64 4, .ptr m7.length 0, .ptr xu 0, .ptr xw 0] false]) m9.length = some [.ptr xd 0, .iface 83 (.ptr xc 0), .int .i64 18, .int .i64 32, .int .i64 4, .ptr m7.length 0, .ptr xu 0, .ptr xw 0] := by rw [own_app_at0]; rfl
 generalize m9 ++ [Blk.row [.ptr xd 0, .iface 83 (.ptr xc 0), .int .i64 18, .int .i64 32, .int .i64 4, .ptr m7.length 0, .ptr xu 0, .ptr xw 0] false] = M at *
 have l12 := k2.len
 have l23 := k3.len
 have l34 := k4.len
 have l45 := k5.len
 have l56 := k6.len
 have l67 := k7.len
 have l78 := k8.len
 have l89 := k9.len
 have l1 := k1.len
 have lt8 := own_lt t8
 have lw9 := own_lt hw
 have lxu := own_lt hT.hd
 have lbu := own_lt hT.rows
 have kB : Kept [bu] m4 M := ((((k5.trans k6).any.trans k7).trans k8.any).trans k9.any).trans k10.any
 have kC : Kept [bu] m5 M := (((k6.any.trans k7).trans k8.any).trans k9.any).trans k10.any
 have kD : Kept [] m7 M := (k8.trans k9).trans k10
 have hRd2 : ∀ q ∈ Rd, q < m4.length := hD.lt
 have hCy : Cy m5 xc Wc Wc (.nm [] []) := ⟨hN, rfl⟩
 have hWc2 : ∀ q ∈ Wc, q < m5.length := hCy.lt
 have hVX : VlX M xd xc xu xw Wd Rd Wc Wc bu .nils v0 := by
  refine ⟨hD.kept kB (fun q hq h => ?_), hCy.kept kC (fun q hq h => ?_), hT7.kept0 kD, ?_, .nils .., ?_, ?_, ?_, by simp [blkOf]⟩
  ·simp only [List.mem_singleton] at h; have := hRd2 q hq; omega
  ·simp only [List.mem_singleton] at h; have := hWc2 q hq; omega
  ·exact k10.own hw (by simp)
  ·intro q h1 h2; have := hRd2 q h1; have := hWc q h2; omega
  ·exact ⟨fun h => by have := hRd2 _ h; omega, fun h => by have := hWc2 _ h; omega, fun h => by have := hRd2 _ h; omega, fun h => by have := hWc2 _ h; omega⟩
  ·exact ⟨fun h => by have := hRd2 _ h; omega, fun h => by have := hWc2 _ h; omega, by omega, by omega⟩
 have hB : ∀ q ∈ vlR xu xw Rd Wc bu .nils, m3.length ≤ q ∧ q ≠ m7.length ∧ q < m9.length := by
  intro q hq
  simp only [vlR, blkOf, List.nil_append, List.mem_cons, List.mem_append] at hq
  rcases hq with rfl | rfl | rfl | hq | hq
  ·omega
  ·omega
  ·omega
  ·have := hRd q hq; have := hRd2 q hq; omega
  ·have := hWc q hq; have := hWc2 q hq; omega
 refine ⟨m9.length, xd, xc, xu, xw, m7.length, vlR xu xw Rd Wc bu .nils, vlW xw Wd Wc bu .nils, rfl, ?_, ⟨⟨Wd, Rd, Wc, Wc, bu, .nils, hVX, rfl, rfl⟩, k10.own t9 (by simp), h10, fun h => (hB _ h).2.1 rfl, ⟨fun h => by have := (hB _ h).2.2; omega, by omega⟩⟩, by omega, by omega, fun q hq => by have := (hB q hq).1; have := k1.len; omega⟩
 exact ((((k1.trans k2).trans k3).trans k4).upon kB (fun q hq => by simp only [List.mem_singleton] at hq; omega))
end Go.Proofs.YtehnkcnjmfbjpaaGreat
end
section
namespace Go.Proofs.YtehnkcnjmfbjpaaGreat
open Go Go.Adm
set_option linter.unusedSimpArgs false
set_option linter.unusedVariables false
set_option maxRecDepth 100000
theorem peek0 (n : Nat) (a : Int) : peekD (dk0 n) a = [] := by
 unfold peekD
 have : cGet (dk0 n).cache a = none := rfl
 rw [this, Option.getD_none]
 show ((List.replicate n ([] : List B8))[a.toNat]?).getD [] = []
 rw [List.getElem?_replicate]
 split <;> rfl
theorem new_b (b : Nat) : Tr.new.b b = Rf.zero := by
 unfold Tr.b
 show (List.replicate 64 Rf.zero).getD b Rf.zero = Rf.zero
 rw [List.getD_eq_getElem?_getD, List.getElem?_replicate]
 split <;> rfl
theorem tb0 : TbOk v0.u 0 (cntS Tr.new.refs) := by
 have hu : v0.u = ⟨1, 0, 0⟩ :: List.replicate 17 ⟨0, 0, 0⟩ := rfl
 have hc : ∀ s, cntS Tr.new.refs s = 0 := fun s => rfl
 rw [hu]
 refine ⟨rfl, fun s hs => ⟨0, ?_⟩, fun s _ => by rw [hc]; omega, fun s _ _ => hc s⟩
 rw [hc]
 cases s with
 | zero => rfl
 | succ s =>
  rw [List.getElem?_cons_succ, List.getElem?_replicate, if_pos (by omega), if_neg (by omega), if_neg (by omega)]
theorem J0 : J x0 (fun _ => []) := by
 refine ⟨⟨⟨rfl, rfl, by decide, by decide, by decide, ⟨rfl, rfl, by show (List.replicate 579 ([] : List B8)).length = 579; rw [List.length_replicate], by show ([] : List Int).Nodup; exact List.nodup_nil⟩, ?_, ?_, ?_, ?_, tb0⟩, by decide, by decide, EntsOk.nil _⟩, ?_, ?_⟩
 ·show ([] : List Sd).length ≤ _; simp
 ·show ([] : List (List B8)).length ≤ _; simp
 ·intro a h1 h2
  have : x0.v.pos = 0 := rfl
  omega
 ·intro a _; exact peek0 579 a
 ·intro b _ hz; exact absurd (new_b b) hz
 ·intro i hi
  have : i = 0 ∨ i = 1 ∨ i = 2 ∨ i = 3 ∨ i = 4 ∨ i = 5 ∨ i = 6 ∨ i = 7 ∨ i = 8 := by omega
  rcases this with rfl | rfl | rfl | rfl | rfl | rfl | rfl | rfl | rfl
  ·exact .inr (.inr (.inl ⟨rfl, rfl⟩))
  all_goals exact .inl rfl
theorem ap_small {v : Vl} {cn : Nat → Int} (h : LgV v cn) (h15 : v.w.seg ≤ 15) (h30 : v.w.slot ≤ 30) (h14 : v.w.ents.length ≤ 14) {k no : Int} (hk : k = 4 ∧ 0 ≤ no ∧ no < 64 ∨ k = 5 ∧ 0 ≤ no ∧ no < 9) {p : List B8} (hp : p.length ≤ 975) :
  (apV v k no p).w.slot = v.w.slot + 1 ∧ (apV v k no p).w.seg = v.w.seg ∧ (apV v k no p).w.ents.length = v.w.ents.length + 1 := by
 obtain ⟨r1, r2, r3, r4, r5, r6, r7⟩ := rm_step h (by omega)
 have hent : entK k no = if k = 4 then 1 else 3 := by
  unfold entK
  rcases hk with hk | hk
  ·rw [if_pos hk, if_pos hk.1]
  ·rw [if_neg (fun h => by omega), if_pos hk, if_neg (by omega)]
 have hent0 : ¬ (entK k no = 0 ∨ p.length > 975) := by rw [hent]; split <;> omega
 have hfull : ¬ (v.full ∧ (v.last 0 ∨ v.last 1 ∧ v.w.ents.length = 15)) := fun h' => tb_full h.w.tb ⟨h.w.seg.1, by omega⟩ h'.1
 have er := r7 h30
 obtain ⟨a1, a2, a3, a4, -⟩ := wr_step h.w (by omega) (k := k) (by omega) hp
 have hApV : apV v k no p = lyV (wrV v k p) (apX v k no p) := by
  rw [apV, if_neg hent0, if_neg hfull, er, if_neg (by simp [r1]), if_neg (by simp [a2])]
 have hl : (wrV v k p).w.ents.length = v.w.ents.length := by rw [a4]
 rw [hApV, lyV, if_pos (by rw [hl]; omega)]
 show (wrV v k p).w.slot = _ ∧ (wrV v k p).w.seg = _ ∧ ((wrV v k p).w.ents ++ [_]).length = _
 rw [List.length_append, hl, a4]
 exact ⟨rfl, rfl, rfl⟩
theorem put_small {x : Pt} {last : Nat → List B8} (h : J x last) (h15 : x.v.w.seg ≤ 15) (h30 : x.v.w.slot ≤ 30) (h14 : x.v.w.ents.length ≤ 14) {b : Nat} (hb : b < 64) {data : List B8} (hd : data.length = 32) :
  (puT x b data).v.w.slot = x.v.w.slot + 1 ∧ (puT x b data).v.w.seg = x.v.w.seg ∧ (puT x b data).v.w.ents.length = x.v.w.ents.length + 1 := by
 have hpl : (puP b data).length ≤ 975 := by rw [puP, List.length_append, numI_len]; omega
 obtain ⟨a1, -⟩ := ap_step h.lg h15 (k := 4) (no := b) (.inl ⟨rfl, by omega, by omega⟩) hpl
 have hE : puE x b data = 0 := a1
 have hT : puT x b data = ⟨((apV x.v 4 b (puP b data)).acc 1 [apR x.v 4 b (puP b data)]).acc (-1) (x.t.setR b (apR x.v 4 b (puP b data))), x.t.setT b (apR x.v 4 b (puP b data))⟩ := by
  rw [puT, if_neg (by simp [hE])]
 rw [hT]
 exact ap_small h.lg h15 h30 h14 (.inl ⟨rfl, by omega, by omega⟩) hpl
theorem put_at {x : Pt} {last : Nat → List B8} (h : J x last) (hp : Psi x < 7936) (h30 : x.v.w.slot ≤ 30) (h14 : x.v.w.ents.length ≤ 14) {b : Nat} (hb : b < 64) {data : List B8} (hd : data.length = 32) :
  ((puT x b data).t.b b).at_ = 3 + x.v.pos ∧ (puT x b data).t.b b ≠ Rf.zero ∧ (puT x b data).v.pos = x.v.pos + 1 := by
 obtain ⟨a1, a2, a3, a4, r, a5, a6, a7⟩ := put_step h hp hb hd
 obtain ⟨s1, s2, s3⟩ := put_small h (psi_seg h hp) h30 h14 hb hd
 have e : (puT x b data).t.b b = r := by rw [a5, setT_b, if_pos ⟨a6, by simp⟩]
 have hpos : (puT x b data).v.pos = x.v.pos + 1 := by
  show 32 * (puT x b data).v.w.seg + (puT x b data).v.w.slot = 32 * x.v.w.seg + x.v.w.slot + 1
  omega
 have hz : (puT x b data).t.b b ≠ Rf.zero := by
  rw [e]; rintro rfl
  exact absurd a6.2 (by decide)
 have := (a2.tr.bl b hb hz).1.1
 rw [e] at this hz ⊢
 exact ⟨by omega, hz, hpos⟩
end Go.Proofs.YtehnkcnjmfbjpaaGreat
end
section
namespace Go.Proofs.YtehnkcnjmfbjpaaGreat
open Go Go.Adm
set_option linter.unusedSimpArgs false
set_option linter.unusedVariables false
set_option maxRecDepth 100000
theorem J.same {x x' : Pt} {last last' : Nat → List B8} (h : J x last) (h' : J x' last') (e : Ext x.v x'.v) : SameHd x x' := ⟨e.up.ty, by rw [h.lg.w.g, h'.lg.w.g]⟩
def Then (xp xd xc xu xw xt : Nat) (m : Mem) (B V : List Nat) (x' : Pt) (m' : Mem) : Prop := ∃ B' V', PtM m' xp xd xc xu xw xt B' V' x' ∧ Kept (xt :: V) m m' ∧ (∀ q ∈ B', q ∈ B ∨ m.length ≤ q) ∧ (∀ q ∈ V', q ∈ V ∨ m.length ≤ q)
section
variable {m : Mem} {xp xd xc xu xw xt : Nat} {B V : List Nat} {x : Pt} {last : Nat → List B8} (h : PtM m xp xd xc xu xw xt B V x) (hj : J x last)
include h hj
theorem pj_put (hp : Psi x < 7936) {b : Nat} (hb : b < 64) {y : AV} {data : List B8} (hy : RdB m y data) (hyB : ∀ q ∈ blkOf y, q ∉ B) (hd : data.length = 32) :
  Ans Tryz.prog 10 [.ptr xp 0, .int .i64 b, y] m fun r m' => r = .int .i64 0 ∧ Then xp xd xc xu xw xt m B V (puT x b data) m' := by
 obtain ⟨a1, a2, a3, a4, -⟩ := put_step hj hp hb hd
 refine (ans_ptput h hj.ok b hy hyB (by omega)).mono ?_
 rintro _ m' ⟨rfl, g⟩
 exact ⟨by rw [a1], h.next g (hj.same a2 a4)⟩
theorem pj_cut (hp : Psi x < 7936) {b : Nat} (hb : b < 64) : Ans Tryz.prog 22 [.ptr xp 0, .int .i64 b] m fun r m' => r = .int .i64 0 ∧ Then xp xd xc xu xw xt m B V (cuT x b) m' := by
 obtain ⟨a1, a2, a3, a4, -⟩ := cut_step hj hp hb
 refine (ans_ptcut h hj.ok b).mono ?_
 rintro _ m' ⟨rfl, g⟩
 exact ⟨by rw [a1], h.next g (hj.same a2 a4)⟩
theorem pj_touch (k : Int) : Ans Tryz.prog 23 [.ptr xp 0, .int .i64 k] m fun r m' => r = .tup [] ∧ Then xp xd xc xu xw xt m B V (toT x k) m' := by
 obtain ⟨a1, a2, a3, -⟩ := touch_step hj k
 refine (ans_pttouch h hj.ok k).mono ?_
 rintro _ m' ⟨rfl, g⟩
 exact ⟨rfl, h.next g (hj.same a1 a3)⟩
theorem pj_save (hp : Psi x < 7936) : Ans Tryz.prog 9 [.ptr xp 0] m fun r m' => r = .int .i64 0 ∧ Then xp xd xc xu xw xt m B V (saT x x.t.dirtyL) m' := by
 obtain ⟨a1, a2, a3, a4, a5, a6⟩ := save_step x.t.dirtyL hj hp rfl
 refine (ans_ptsave h (fun k => (a6 k).ok)).mono ?_
 rintro _ m' ⟨rfl, g⟩
 exact ⟨by rw [a1], h.next g (hj.same a2 a4)⟩
theorem pj_close (hp : Psi x < 7936) : Ans Tryz.prog 20 [.ptr xw 0, .int .i64 0] m fun r m' => r = .int .i64 0 ∧ Then xp xd xc xu xw xt m B V ⟨clV x.v 0, x.t⟩ m' := by
 obtain ⟨a1, a2, a3, a4⟩ := close_step hj hp
 refine (ans_wclose h.vl ⟨hj.ok.vl.hg, hj.ok.vl.hu, ⟨cyOk_mono hj.ok.vl.hc.1 (by omega), cyTk_mono hj.ok.vl.hc.2 (by omega)⟩, hj.ok.vl.hl⟩ 0).mono ?_
 rintro _ m' ⟨rfl, g⟩
 exact ⟨by rw [a1], h.next (Goes.parts (x1 := ⟨clV x.v 0, x.t⟩) g h.tr h.a1 h.vl.sub) (hj.same a2 a4)⟩
theorem J.peek_le {a : Int} (ha : 3 ≤ a) : (peekD x.v.d a).length ≤ 1024 := by
 have _u := h
 rcases hj.seen ha with ⟨k, p, hs⟩ | hs
 ·exact hs.get.2.2.2.1
 ·rw [hs]; simp
theorem pj_what (seg slot : Int) : Ans Tryz.prog 14 [.ptr xp 0, .agg [.int .i64 seg, .int .i64 slot]] m fun r m' => ∃ w, r = .tup [.agg (itC ((whO x seg slot).getD Itm.zero) w), .bool (whO x seg slot).isSome] ∧ RdB m' w ((whO x seg slot).getD Itm.zero).data ∧ (∀ q ∈ blkOf w, m.length ≤ q) ∧ Kept V m m' ∧ PtM m' xp xd xc xu xw xt B V (whT x seg slot) := by
 refine ans_lwhat h (cyOk_mono hj.ok.vl.hc.1 (by omega)) (cyTk_mono hj.ok.vl.hc.2 (by omega)) seg slot fun h0 => ?_
 have hin : (0 ≤ seg ∧ seg ≤ 17) ∧ 0 ≤ slot ∧ slot ≤ 31 := Classical.byContradiction fun h' => h0 (by rw [hj.lg.w.g]; exact at_no h')
 have ha := at_in hj.lg.w.g hin.1 hin.2
 rw [ha, hj.lg.w.dk.2.2.1]
 unfold secOf
 have := hj.peek_le (a := 3 + seg * 32 + slot) h (by omega)
 omega
theorem pj_is (i : Itm) {w : AV} (hw : cellsV w = [w] ∧ w.solid = true) : Ans Tryz.prog 15 [.ptr xp 0, .agg (itC i w)] m fun r m' => r = .bool (isB x.t i) ∧ Kept [] m m' := by
 have _u := hj
 exact ans_lis h i w hw
theorem pj_counts : Ans Tryz.prog 24 [.ptr xp 0] m fun r m' => ∃ b, r = .sl b 0 18 18 0 ∧ own m' b = some (intsC ((List.range 18).map (cntS x.t.refs))) ∧ m.length ≤ b ∧ Kept [] m m' := by
 have hg := hj.lg.w.g
 have hrl : x.t.refs.length ≤ 1000 := by
  have h1 : (liveB x.t.bl).length ≤ x.t.bl.length := List.length_filter_le _ _
  have h2 : ∀ l : List Nd, (liveN l).length ≤ l.length := by
   intro l
   induction l with
   | nil => exact Nat.le_refl _
   | cons n l ih =>
    have : (goneN n).length ≤ 1 := by unfold goneN; split <;> simp
    simp only [liveN, List.flatMap_cons, List.length_append, List.length_cons] at ih ⊢
    omega
  have h3 := h2 x.t.nd
  rw [x.t.hb] at h1
  rw [x.t.hn] at h3
  rw [Tr.refs, List.length_append]; omega
 refine (ans_lcounts h (by rw [hg]; decide) hrl).mono ?_
 rw [hg]
 rintro _ m' ⟨b, rfl, hb⟩
 exact ⟨b, rfl, hb⟩
end
theorem itC_k (i : Itm) (w : AV) : (itC i w)[0]? = some (.int .i64 i.k) := rfl
theorem itC_n (i : Itm) (w : AV) : (itC i w)[1]? = some (.int .i64 i.no) := rfl
theorem itC_w (i : Itm) (w : AV) : (itC i w)[35]? = some w := by
 have h : itC i w = (.int .i64 i.k :: .int .i64 i.no :: i.ref.cells) ++ [w] := rfl
 have hl : (.int .i64 i.k :: .int .i64 i.no :: i.ref.cells : List AV).length = 35 := by simp [Rf.cells_len]
 rw [h, List.getElem?_append_right (by omega), hl]; rfl
theorem itC_t (i : Itm) (w : AV) : List.take 36 (itC i w) = itC i w := List.take_of_length_le (by rw [itC_len]; omega)
theorem known_facts : ∃ x1 x2 : Pt, puT x0 2 (rowB 32) = x1 ∧ puT x1 2 (List.replicate 32 0#8) = x2 ∧ puE x0 2 (rowB 32) = 0 ∧ J x1 (fun i => if i = 2 then rowB 32 else []) ∧ Psi x1 < 7936 ∧ J x2 (fun i => if i = 2 then List.replicate 32 0#8 else if i = 2 then rowB 32 else []) ∧ x2.v.pos = 2 ∧ (x2.t.b 2).at_ = 4 ∧ x2.t.b 2 ≠ Rf.zero ∧ Stored x2.v.d x2.v.c 3 4 (puP 2 (rowB 32)) ∧ cntS x2.t.refs 0 = 1 := by
 have rl : (rowB 32).length = 32 := rowB_len 32
 have zl : (List.replicate 32 0#8).length = 32 := by simp
 obtain ⟨a1, a2, a3, a4, r1, a5, a6, a7⟩ := put_step J0 (b := 2) (by decide) (by omega) rl
 obtain ⟨b1, b2, b3⟩ := put_at J0 (b := 2) (by decide) (by decide) (by decide) (by omega) rl
 obtain ⟨c1, c2, c3⟩ := put_small J0 (b := 2) (by decide) (by decide) (by decide) (by omega) rl
 have hp0 : x0.v.pos = 0 := rfl
 have hps : Psi x0 = 0 := rfl
 have hs0 : x0.v.w.slot = 0 := rfl
 have he0 : x0.v.w.ents.length = 0 := rfl
 have hx0 : x0.t = Tr.new := rfl
 have a1' : puT x0 (2 : Nat) (rowB 32) = puT x0 2 (rowB 32) := rfl
 rw [a1'] at a2 a3 a4 a5 b1 b2 b3 c1 c2 c3
 have a6 : Tr.setOk 2 r1 := a6
 have a5 : (puT x0 2 (rowB 32)).t = x0.t.setT 2 r1 := a5
 refine ⟨_, _, rfl, rfl, a1, a2, by omega, ?_⟩
 generalize puT x0 2 (rowB 32) = x1 at *
 obtain ⟨d1, d2, d3, d4, r2, d5, d6, d7⟩ := put_step a2 (b := 2) (by omega) (by omega) zl
 obtain ⟨e1, e2, e3⟩ := put_at a2 (b := 2) (by omega) (by omega) (by omega) (by omega) zl
 have d1' : puT x1 (2 : Nat) (List.replicate 32 0#8) = puT x1 2 (List.replicate 32 0#8) := rfl
 rw [d1'] at d2 d3 d4 d5 e1 e2 e3
 have d6 : Tr.setOk 2 r2 := d6
 have d5 : (puT x1 2 (List.replicate 32 0#8)).t = x1.t.setT 2 r2 := d5
 have hS : Stored x1.v.d x1.v.c 3 4 (puP 2 (rowB 32)) := by
  have := (a2.tr.bl 2 (by omega) b2).1.2.2
  rw [b1, hp0, if_pos rfl] at this
  exact this
 have g1 : x1.t.b 2 = r1 := by rw [a5, setT_b, if_pos ⟨a6, by decide⟩]
 have f1 : ∀ q, x1.t.refs.count q = [r1].count q := fun q => by
  have := cnt_set x0.t 2 r1 q
  rw [if_pos a6] at this
  have h2 : x0.t.setR 2 r1 = [] := by
   rw [Tr.setR, if_pos a6]; rfl
  rw [h2, show x0.t.refs = [] from rfl] at this
  rw [a5]
  simpa using this
 have f2 : ∀ q, (puT x1 2 (List.replicate 32 0#8)).t.refs.count q = [r2].count q := fun q => by
  have := cnt_set x1.t 2 r2 q
  rw [if_pos d6] at this
  have h2 : x1.t.setR 2 r2 = [r1] := by
   rw [Tr.setR, if_pos d6]
   have h3 : x1.t.old (2 : Int).toNat = [r1] := by
    rw [Tr.old, show (2 : Int).toNat = 2 from rfl, if_neg b2, g1]
   rw [h3, a5, hx0, Tr.setT, if_pos a6]; rfl
  rw [h2, f1] at this
  rw [d5]
  omega
 have g2 : (puT x1 2 (List.replicate 32 0#8)).t.b 2 = r2 := by rw [d5, setT_b, if_pos ⟨d6, by decide⟩]
 refine ⟨d2, by omega, by omega, e2, d4.stored hS (by omega), ?_⟩
 have := cntS_cnt (a := (puT x1 2 (List.replicate 32 0#8)).t.refs) (b := []) (c := [r2]) (d := []) (fun q => by rw [f2]) 0
 have h0 : cntS [] 0 = 0 := rfl
 rw [h0, cntS_cons, h0, if_pos ((inS_iff 0 r2).mpr (by rw [← g2]; omega))] at this
 omega
theorem ans_lvknown (m : Mem) : Ans Tryz.prog 12 [] m fun r m' => r = .bool true ∧ True := by
 refine ans_ret mixed ok12 ?_
 simp -implicitDefEqProofs (disch := (first | omega | (simp only [lq11] <;> omega) | fail)) only [admQ, lq11, aFill, AK.cls, implies_true, if_true, if_false, seval, -List.reduceReplicate, c12, r12]
 refine (ans_lvfresh m).mono ?_
 rintro _ m1 ⟨xp, xd, xc, xu, xw, xt, B, V, rfl, k1, hP, hxp, hxt, hB⟩
 simp -implicitDefEqProofs (disch := (first | omega | (simp only [lq11] <;> omega) | fail)) only [admQ, lq11, aFill, AK.cls, implies_true, if_true, if_false, seval, -List.reduceReplicate]
 refine (ans_row 32 (by omega) m1).mono ?_
 rintro _ m2 ⟨p2, rfl, k2, l2, o2⟩
 simp -implicitDefEqProofs (disch := (first | omega | (simp only [lq11] <;> omega) | fail)) only [admQ, lq11, aFill, AK.cls, implies_true, if_true, if_false, seval, -List.reduceReplicate]
 have rl : (rowB 32).length = 32 := rowB_len 32
 have zl : (List.replicate 32 0#8).length = 32 := by simp
 have hy2 : RdB m2 (.sl p2 0 32 32 0) (rowB 32) := by have := RdB.row (l := rowB 32) 32 0 (rowOf_own o2) (by omega); rw [rl] at this; exact this
 have hB2 : ∀ q ∈ B, q < m1.length := hP.vl.lt
 obtain ⟨x1, x2, hx1, hx2, -, j1, p1, j2, ps2, at2, nz2, st2, cn2⟩ := known_facts
 have hpj := pj_put (b := 2) (hP.kept0 k2) J0 (by decide) (by omega) hy2 (fun q hq h => by simp only [blkOf, List.mem_singleton] at hq; have := hB2 q h; omega) rl
 refine Ans.mono hpj ?_
 rintro _ m3 ⟨rfl, B3, V3, hP3, k3, hB3, -⟩
 have e1 : puT x0 (2 : Nat) (rowB 32) = x1 := hx1
 rw [e1] at hP3
 have k4 := Kept.app [] m3 [Blk.row (bys (List.replicate 32 0#8)) false]
 have z4 : own (m3 ++ [Blk.row (bys (List.replicate 32 0#8)) false]) m3.length = some (bys (List.replicate 32 0#8)) := by rw [own_app_at0]; rfl
 have hr32 : rep 32 [AV.int .u8 0] = bys (List.replicate 32 0#8) := by rw [← bys_rep]; simp [rep]
 have hB3' : ∀ q ∈ B3, q < m3.length := hP3.vl.lt
 simp -implicitDefEqProofs (disch := (first | omega | (simp only [lq11] <;> omega) | fail)) only [admQ, lq11, aFill, AK.cls, implies_true, if_true, if_false, seval, -List.reduceReplicate, hr32]
 have hy4 : RdB (m3 ++ [Blk.row (bys (List.replicate 32 0#8)) false]) (.sl m3.length 0 32 32 0) (List.replicate 32 0#8) := by have := RdB.row (l := List.replicate 32 0#8) 32 0 (rowOf_own z4) (by omega); rw [zl] at this; exact this
 generalize m3 ++ [Blk.row (bys (List.replicate 32 0#8)) false] = m4 at *
 have hpj2 := pj_put (b := 2) (hP3.kept0 k4) j1 p1 (by omega) hy4 (fun q hq h => by simp only [blkOf, List.mem_singleton] at hq; have := hB3' q h; omega) zl
 refine Ans.mono hpj2 ?_
 rintro _ m5 ⟨rfl, B5, V5, hP5, k5, hB5, -⟩
 have e2 : puT x1 (2 : Nat) (List.replicate 32 0#8) = x2 := hx2
 rw [e2] at hP5
 clear hx1 hx2 e1 e2 hpj hpj2
 have hW0 : whO x2 0 0 = some ⟨4, 2, ⟨3, smOf x2.v.c (peekD x2.v.d 3)⟩, rowB 32⟩ := whO_block (a := 3) (b := 2) (by rw [j2.lg.w.g]; rfl) (by omega) (by omega) rl st2
 simp -implicitDefEqProofs (disch := (first | omega | (simp only [lq11] <;> omega) | fail)) only [admQ, lq11, aFill, AK.cls, implies_true, if_true, if_false, seval, -List.reduceReplicate]
 refine Ans.mono (pj_what hP5 j2 0 0) ?_
 rintro _ m6 ⟨w6, rfl, rw6, bl6, k6, hP6⟩
 rw [hW0] at rw6 ⊢
 obtain ⟨j6, q6, -, v6, -, t6⟩ := j2.look 0 0
 generalize whT x2 0 0 = x6 at *
 have hiC : ∀ i w, (itC i w).length = 36 := itC_len
 have hZS : ∀ i w, splice (AV.int .i64 0 :: .int .i64 0 :: .int .i64 0 :: (bys (List.replicate 32 0#8) ++ [.nils])) 0 (itC i w) = itC i w := fun i w => splice_full (by rw [itC_len]; rfl)
 have k6c := Kept.app [] m6 [Blk.row (itC ⟨4, 2, ⟨3, smOf x2.v.c (peekD x2.v.d 3)⟩, rowB 32⟩ w6) false]
 have o6 : own (m6 ++ [Blk.row (itC ⟨4, 2, ⟨3, smOf x2.v.c (peekD x2.v.d 3)⟩, rowB 32⟩ w6) false]) m6.length = some (itC ⟨4, 2, ⟨3, smOf x2.v.c (peekD x2.v.d 3)⟩, rowB 32⟩ w6) := by rw [own_app_at0]; rfl
 simp only [Option.getD_some, Option.isSome_some] at rw6 ⊢
 simp -implicitDefEqProofs (disch := (first | omega | (simp only [lq11] <;> omega) | fail)) only [admQ, lq11, aFill, AK.cls, implies_true, if_true, if_false, seval, -List.reduceReplicate, hiC, hZS]
 have hb5 : ∀ q ∈ B5, q < m5.length := hP5.vl.lt
 have hV5 := hP5.vl.sub
 have l56 := k6.len
 have rw6' := rw6.kept0 k6c
 have hP6' := hP6.kept0 k6c
 have l6 := own_lt o6
 generalize m6 ++ [Blk.row (itC ⟨4, 2, ⟨3, smOf x2.v.c (peekD x2.v.d 3)⟩, rowB 32⟩ w6) false] = m7 at *
 have nz6 : x6.t.b 2 ≠ Rf.zero := by rw [t6]; exact nz2
 have at6 : (x6.t.b 2).at_ = secOf 0 1 := by rw [t6]; exact at2
 obtain ⟨hW1, hI1⟩ := j6.block (seg := 0) (slot := 1) (by omega) (by omega) (b := 2) (by omega) nz6 at6
 rw [if_pos rfl] at hW1 hI1
 refine Ans.mono (pj_what hP6' j6 0 1) ?_
 rintro _ m8 ⟨w8, rfl, rw8, bl8, k8, hP8⟩
 rw [hW1] at rw8 ⊢
 obtain ⟨j8, q8, -, v8, -, t8⟩ := j6.look 0 1
 generalize whT x6 0 1 = x8 at *
 simp only [Option.getD_some, Option.isSome_some] at rw8 ⊢
 have k8c := Kept.app [] m8 [Blk.row (itC ⟨4, (2 : Nat), x6.t.b 2, List.replicate 32 0#8⟩ w8) false]
 have o8 : own (m8 ++ [Blk.row (itC ⟨4, (2 : Nat), x6.t.b 2, List.replicate 32 0#8⟩ w8) false]) m8.length = some (itC ⟨4, (2 : Nat), x6.t.b 2, List.replicate 32 0#8⟩ w8) := by rw [own_app_at0]; rfl
 have hn5 : ∀ q, m5.length ≤ q → q ∉ V5 := fun q h1 h2 => by have := hb5 q (hV5 q h2); omega
 have o7 := k8c.own (k8.own o6 (hn5 _ l56)) (by simp)
 have rw7 := (rw6'.kept k8 (fun b o n cap s e => hn5 b (bl6 b (by rw [e]; simp [blkOf])))).kept0 k8c
 have hP8' := hP8.kept0 k8c
 simp -implicitDefEqProofs (disch := (first | omega | (simp only [lq11] <;> omega) | fail)) only [admQ, lq11, aFill, AK.cls, implies_true, if_true, if_false, seval, -List.reduceReplicate, hiC, hZS]
 have l8 := own_lt o8
 have l78 := k8.len
 generalize m8 ++ [Blk.row (itC ⟨4, (2 : Nat), x6.t.b 2, List.replicate 32 0#8⟩ w8) false] = m9 at *
 have hW2 : whO x8 0 2 = none := whO_nil (a := 5) (by rw [j8.lg.w.g]; rfl) (j8.lg.w.un 5 (by
  have : x8.v.pos = 2 := by show 32 * x8.v.w.seg + x8.v.w.slot = 2; rw [v8, v6]; exact ps2
  omega))
 refine Ans.mono (pj_what hP8' j8 0 2) ?_
 rintro _ m10 ⟨w10, rfl, rw10, bl10, k10, hP10⟩
 rw [hW2]
 obtain ⟨j10, q10, -, v10, -, t10⟩ := j8.look 0 2
 generalize whT x8 0 2 = x10 at *
 simp only [Option.getD_none, Option.isSome_none]
 have k10c := Kept.app [] m10 [Blk.row (itC Itm.zero w10) false]
 have o9 := k10c.own (k10.own o7 (hn5 _ l56)) (by simp)
 have o10 := k10c.own (k10.own o8 (hn5 _ (by omega))) (by simp)
 have rw9 := (rw7.kept k10 (fun b o n cap s e => hn5 b (bl6 b (by rw [e]; simp [blkOf])))).kept0 k10c
 have hP10' := hP10.kept0 k10c
 simp -implicitDefEqProofs (disch := (first | omega | (simp only [lq11] <;> omega) | fail)) only [admQ, lq11, aFill, AK.cls, implies_true, if_true, if_false, seval, -List.reduceReplicate, hiC, hZS]
 generalize m10 ++ [Blk.row (itC Itm.zero w10) false] = m11 at *
 simp -implicitDefEqProofs (disch := (first | omega | (simp only [lq11] <;> omega) | fail)) only [admQ, lq11, aFill, AK.cls, implies_true, if_true, if_false, seval, -List.reduceReplicate, rowOf_own o9, itC_k, itC_n, itC_w, hiC]
 refine (ans_row 32 (by omega) m11).mono ?_
 rintro _ m12 ⟨p12, rfl, k12, l12, o12⟩
 have hy12 : RdB m12 (.sl p12 0 32 32 0) (rowB 32) := by have := RdB.row (l := rowB 32) 32 0 (rowOf_own o12) (by omega); rw [rl] at this; exact this
 have o9' := k12.own o9 (by simp)
 have o10' := k12.own o10 (by simp)
 simp -implicitDefEqProofs (disch := (first | omega | (simp only [lq11] <;> omega) | fail)) only [admQ, lq11, aFill, AK.cls, implies_true, if_true, if_false, seval, -List.reduceReplicate, rowOf_own o9', itC_k, itC_n, itC_w, hiC]
 refine (ans_samebytes (rw9.kept0 k12) hy12 (by rw [rl]; omega)).mono ?_
 rintro _ M ⟨rfl, hM⟩
 subst hM
 rw [beq_self_eq_true]
 have hPM := hP10'.kept0 k12
 simp -implicitDefEqProofs (disch := (first | omega | (simp only [lq11] <;> omega) | fail)) only [admQ, lq11, aFill, AK.cls, implies_true, if_true, if_false, seval, -List.reduceReplicate, rowOf_own o9', itC_k, itC_n, itC_w, itC_t, hiC]
 refine Ans.mono (pj_is hPM j10 ⟨4, 2, ⟨3, smOf x2.v.c (peekD x2.v.d 3)⟩, rowB 32⟩ (rd_one rw9)) ?_
 rintro _ m13 ⟨rfl, k13⟩
 have hno : isB x10.t ⟨4, 2, ⟨3, smOf x2.v.c (peekD x2.v.d 3)⟩, rowB 32⟩ = false := by
  rw [t10, t8, t6]
  have e : isB x2.t ⟨4, 2, ⟨3, smOf x2.v.c (peekD x2.v.d 3)⟩, rowB 32⟩ = (!(x2.t.at 2 == Rf.zero) && (x2.t.at 2 == ⟨3, smOf x2.v.c (peekD x2.v.d 3)⟩)) := rfl
  have e2 : (x2.t.at 2 == (⟨3, smOf x2.v.c (peekD x2.v.d 3)⟩ : Rf)) = false := by
   have h2 : x2.t.at 2 = x2.t.b 2 := rfl
   rw [h2, beq_eq_false_iff_ne]
   intro h3
   have := congrArg Rf.at_ h3
   simp only at this
   omega
  rw [e, e2, Bool.and_false]
 rw [hno]
 have o10'' := k13.own o10' (by simp)
 have rw10' := ((rw8.kept0 k8c).kept k10 (fun b o n cap s e => hn5 b (by have := bl8 b (by rw [e]; simp [blkOf]); omega)))
 have o9'' := k13.own o9' (by simp)
 simp -implicitDefEqProofs (disch := (first | omega | (simp only [lq11] <;> omega) | fail)) only [admQ, lq11, aFill, AK.cls, implies_true, if_true, if_false, seval, -List.reduceReplicate, rowOf_own o9', rowOf_own o9'', rowOf_own o10'', rowOf_own o10', itC_k, itC_n, itC_w, itC_t, hiC]
 refine Ans.mono (pj_is (hPM.kept0 k13) j10 ⟨4, (2 : Nat), x6.t.b 2, List.replicate 32 0#8⟩ (rd_one rw10')) ?_
 rintro _ m14 ⟨rfl, k14⟩
 have hyes : isB x10.t ⟨4, (2 : Nat), x6.t.b 2, List.replicate 32 0#8⟩ = true := by rw [t10, t8]; exact hI1
 rw [hyes]
 have o9t := k14.own o9'' (by simp)
 have o10t := k14.own o10'' (by simp)
 simp -implicitDefEqProofs (disch := (first | omega | (simp only [lq11] <;> omega) | fail)) only [admQ, lq11, aFill, AK.cls, implies_true, if_true, if_false, seval, -List.reduceReplicate, rowOf_own o9', rowOf_own o9'', rowOf_own o9t, rowOf_own o10'', rowOf_own o10', rowOf_own o10t, itC_k, itC_n, itC_w, itC_t, hiC]
 refine Ans.mono (pj_counts ((hPM.kept0 k13).kept0 k14) j10) ?_
 rintro _ m15 ⟨bc, rfl, o15, lbc, k15⟩
 have ht : x10.t = x2.t := by rw [t10, t8, t6]
 rw [ht] at o15
 have c15 : (intsC ((List.range 18).map (cntS x2.t.refs)))[0]? = some (.int .i64 1) := by
  rw [intsC, List.map_map, List.getElem?_map, List.getElem?_range (by omega), Option.map_some, Function.comp]
  rw [cn2]
 have o9u := k15.own o9t (by simp)
 have o10u := k15.own o10t (by simp)
 simp -implicitDefEqProofs (disch := (first | omega | (simp only [lq11] <;> omega) | fail)) only [admQ, lq11, aFill, AK.cls, implies_true, if_true, if_false, seval, -List.reduceReplicate, rowOf_own o15, c15, rowOf_own o9u, rowOf_own o10u, itC_k, itC_n, itC_w, itC_t, hiC]
end Go.Proofs.YtehnkcnjmfbjpaaGreat
end
section
namespace Go.Proofs.YtehnkcnjmfbjpaaGreat
open Go Go.Adm
set_option linter.unusedSimpArgs false
set_option linter.unusedVariables false
set_option maxRecDepth 100000
abbrev Act := Int × Int × List B8
def RdActs (m : Mem) (x : AV) (L : List Act) : Prop :=
 (x = .nils ∧ L = []) ∨ ∃ b cap xs, x = .sl b 0 L.length cap 0 ∧ rowOf m b = some xs ∧ xs.length = L.length * 3 ∧ ∀ (i : Nat) (s : Act), L[i]? = some s →
  ∃ p, xs[i * 3]? = some (.int .i64 s.1) ∧ xs[i * 3 + 1]? = some (.int .i64 s.2.1) ∧ xs[i * 3 + 2]? = some p ∧ RdB m p s.2.2
theorem RdActs.kept0 {m m' : Mem} {x : AV} {L : List Act} (h : RdActs m x L) (hk : Kept [] m m') : RdActs m' x L := by
 rcases h with h | ⟨b, cap, xs, h1, h2, h3, h4⟩
 ·exact .inl h
 ·refine .inr ⟨b, cap, xs, h1, hk.row0 h2, h3, fun i s hs => ?_⟩
  obtain ⟨p, a1, a2, a3, a4⟩ := h4 i s hs
  exact ⟨p, a1, a2, a3, a4.kept0 hk⟩
theorem RdActs.len {m : Mem} {x : AV} {L : List Act} (h : RdActs m x L) : pLen [x] = some (.int .i64 L.length) := by
 rcases h with ⟨rfl, rfl⟩ | ⟨b, cap, _, rfl, _⟩ <;> rfl
theorem RdActs.at_ {m : Mem} {x : AV} {L : List Act} (h : RdActs m x L) {i : Nat} {s : Act} (hs : L[i]? = some s) : ∃ b cap xs p, x = .sl b 0 L.length cap 0 ∧ rowOf m b = some xs ∧ xs[i * 3]? = some (.int .i64 s.1) ∧ xs[i * 3 + 1]? = some (.int .i64 s.2.1) ∧ xs[i * 3 + 2]? = some p ∧ RdB m p s.2.2 ∧ i < L.length ∧ xs.length = L.length * 3 := by
 rcases h with ⟨rfl, rfl⟩ | ⟨b, cap, xs, h1, h2, h3, h4⟩
 ·cases hs
 ·obtain ⟨p, a1, a2, a3, a4⟩ := h4 i s hs
  exact ⟨b, cap, xs, p, h1, h2, a1, a2, a3, a4, lt_of_get hs, h3⟩
theorem IsRecs.acts {m : Mem} {x : AV} {dss : List (List Adm.Fd)} (h : IsRecs [.i .i64, .i .i64, .b] dss x m) : ∃ L, dss.length = L.length ∧ RdActs m x L := by
  rcases h with ⟨rfl, rfl⟩ | ⟨b, cap, xs, rfl, h2, h3, h4⟩
  · exact ⟨[], rfl, .inl ⟨rfl, rfl⟩⟩
  · have key : ∀ (dss : List (List Adm.Fd)) (xs : List AV), (∀ ds ∈ dss, ds.length = 3) → RdCs m (List.replicate dss.length [Fk.i .i64, .i .i64, .b]).flatten dss.flatten xs →
        ∃ L : List Act, dss.length = L.length ∧ xs.length = L.length * 3 ∧ ∀ (i : Nat) (s : Act), L[i]? = some s →
          ∃ p, xs[i * 3]? = some (.int .i64 s.1) ∧ xs[i * 3 + 1]? = some (.int .i64 s.2.1) ∧ xs[i * 3 + 2]? = some p ∧ RdB m p s.2.2 := by
      intro dss
      induction dss with
      | nil => intro xs _ h; obtain ⟨_, rfl⟩ := h.none; exact ⟨[], rfl, rfl, fun i s h1 => by simp at h1⟩
      | cons d r ih =>
        intro xs hl h
        have hd := hl d (by simp)
        match d, hd with
        | [y1, y2, y3], _ =>
          simp only [List.length_cons, List.replicate_succ, List.flatten_cons, List.cons_append, List.nil_append] at h
          obtain ⟨n1, d1, x1, e1, rfl, _, h⟩ := h.int
          simp only [List.cons.injEq] at e1
          obtain ⟨rfl, rfl⟩ := e1
          obtain ⟨n2, d2, x2, e2, rfl, _, h⟩ := h.int
          simp only [List.cons.injEq] at e2
          obtain ⟨rfl, rfl⟩ := e2
          obtain ⟨l5, d5, y5', x5, e5, rfl, hb5, h⟩ := h.bytes
          simp only [List.cons.injEq] at e5
          obtain ⟨rfl, rfl⟩ := e5
          obtain ⟨L, i1, i2, i3⟩ := ih x5 (fun ds h => hl ds (by simp [h])) h
          refine ⟨(n1, n2, l5) :: L, by simp [i1], by simp [i2]; omega, fun i s hs => ?_⟩
          cases i with
          | zero => simp at hs; subst hs; exact ⟨y5', rfl, rfl, rfl, hb5⟩
          | succ i =>
            obtain ⟨p', a1, a2, a3, a4⟩ := i3 i s (by simpa using hs)
            refine ⟨p', ?_, ?_, ?_, a4⟩ <;> rw [show (i + 1) * 3 = i * 3 + 3 by omega] <;> assumption
    obtain ⟨L, k1, k2, k3⟩ := key dss xs h4 h3
    exact ⟨L, k1, .inr ⟨b, cap, xs, by rw [k1], h2, k2, k3⟩⟩
def datB (l : List B8) : List B8 := l.take 32 ++ List.replicate (32 - l.length) 0#8
theorem datB_len (l : List B8) : (datB l).length = 32 := by simp [datB]; omega
theorem copy32 {m : Mem} {p cap s : Nat} {x : AV} {l : List B8} (hx : RdB m x l) (ho : own m p = some (bys (List.replicate 32 0#8))) : ∃ r, aCopy 1 (.sl p 0 32 cap s) x m = some (r, m.set p (.row (bys (datB l)) false)) := by
 have hz : (bys (List.replicate 32 0#8)).length = 32 := by rw [bys_len, List.length_replicate]
 by_cases h : l.length ≤ 32
 ·refine ⟨.int .i64 l.length, (copy_row hx ho (by omega) h).trans ?_⟩
  have : splice (bys (List.replicate 32 0#8)) 0 (bys l) = bys (datB l) := by
   rw [datB, List.take_of_length_le h, splice, List.take_zero, List.nil_append, bys_len, Nat.zero_add, bys, bys, bys, ← List.map_drop, ← List.map_append, List.drop_replicate]
  rw [this]
 ·obtain ⟨b, o, c, s', cc, rfl, hrow, hat, hlen, hcap, hsl, htk⟩ := hx.cons (i := 0) (by omega)
  have h2 := (hx.take (k := 32) (by omega)).elems
  have hl32 : (l.take 32).length = 32 := by simp; omega
  rw [hl32] at h2
  have h3 : elems 1 32 (.sl b o l.length c s') m = some (bys (l.take 32)) := by
   simp only [elems] at h2 ⊢
   rw [if_neg (by decide), if_pos (Nat.le_refl _)] at h2
   rw [if_neg (by decide), if_pos (by omega)]
   exact h2
  have hd : datB l = l.take 32 := by rw [datB, show 32 - l.length = 0 by omega]; simp
  have hs : splice (bys (List.replicate 32 0#8)) 0 (bys (l.take 32)) = bys (l.take 32) := splice_full (by rw [hz, bys_len, hl32])
  refine ⟨.int .i64 32, ?_⟩
  unfold aCopy
  have h4 : lenA (.sl b o l.length c s') = some l.length := rfl
  have h5 : lenA (.sl p 0 32 cap s) = some 32 := rfl
  have h6 : Nat.min l.length 32 = 32 := Nat.min_eq_right (by omega)
  simp only [h4, h5, Option.bind_some, h6, h3, ho, hs, hd]
  rw [if_neg (by decide), if_pos (by omega)]
  rfl
end Go.Proofs.YtehnkcnjmfbjpaaGreat
end
section
namespace Go.Proofs.YtehnkcnjmfbjpaaGreat
open Go Go.Adm
set_option linter.unusedSimpArgs false
set_option linter.unusedVariables false
set_option maxRecDepth 100000
def cntR (l : List Rf) (lo a : Int) : Int := ((l.filter fun r => decide (lo ≤ r.at_ ∧ r.at_ < a)).length : Int)
theorem cntR_zero (l : List Rf) (lo : Int) : cntR l lo lo = 0 := by
 unfold cntR
 have : l.filter (fun r => decide (lo ≤ r.at_ ∧ r.at_ < lo)) = [] := List.filter_eq_nil_iff.mpr fun r _ => by
  rw [decide_eq_true_iff]; omega
 rw [this]; rfl
theorem cntR_full (l : List Rf) {s : Nat} (hs : s < 18) : cntR l (3 + 32 * (s : Int)) (35 + 32 * (s : Int)) = cntS l s := by
 unfold cntR cntS
 congr 2
 apply List.filter_congr
 intro r _
 rw [Bool.eq_iff_iff, inS_iff, decide_eq_true_iff]
 omega
theorem cntR_le (l : List Rf) (lo a : Int) : 0 ≤ cntR l lo a ∧ cntR l lo a ≤ l.length := by
 unfold cntR
 have := List.length_filter_le (fun r : Rf => decide (lo ≤ r.at_ ∧ r.at_ < a)) l
 omega
theorem cntR_cons (r : Rf) (l : List Rf) (lo a : Int) : cntR (r :: l) lo a = (if lo ≤ r.at_ ∧ r.at_ < a then 1 else 0) + cntR l lo a := by
 unfold cntR
 by_cases h : lo ≤ r.at_ ∧ r.at_ < a
 ·rw [List.filter_cons_of_pos (by simpa using h), if_pos h, List.length_cons]; omega
 ·rw [List.filter_cons_of_neg (by simpa using h), if_neg h]; omega
theorem cntR_none {l : List Rf} {lo a : Int} (h : ∀ r ∈ l, r.at_ ≠ a) : cntR l lo (a + 1) = cntR l lo a := by
 unfold cntR
 congr 2
 apply List.filter_congr
 intro r hr
 have := h r hr
 rw [Bool.eq_iff_iff, decide_eq_true_iff, decide_eq_true_iff]
 omega
theorem cntR_one : ∀ {l : List Rf} {lo a : Int}, (l.map (·.at_)).Nodup → lo ≤ a → (∃ r ∈ l, r.at_ = a) → cntR l lo (a + 1) = cntR l lo a + 1 := by
 intro l
 induction l with
 | nil => intro lo a _ _ h; obtain ⟨r, h, -⟩ := h; cases h
 | cons x l ih =>
  intro lo a hn hlo h
  rw [List.map_cons, List.nodup_cons] at hn
  rw [cntR_cons, cntR_cons]
  by_cases hx : x.at_ = a
  ·rw [if_pos (by omega), if_neg (by omega), cntR_none fun r hr he => hn.1 (List.mem_map.mpr ⟨r, hr, by rw [he, hx]⟩)]
   omega
  ·obtain ⟨r, hr, he⟩ := h
   rcases List.mem_cons.mp hr with rfl | hr
   ·exact absurd he hx
   ·rw [ih hn.2 hlo ⟨r, hr, he⟩]
    by_cases h1 : lo ≤ x.at_ ∧ x.at_ < a
    ·rw [if_pos (by omega), if_pos h1]; omega
    ·rw [if_neg (by omega), if_neg h1]; omega
section
variable {v : Vl} {t : Tr} {last : Nat → List B8}
theorem TrOk.b_ne (h : TrOk v t last) {i j : Nat} (hi : i < 64) (hj : j < 64) (zi : t.b i ≠ Rf.zero) (zj : t.b j ≠ Rf.zero) (e : (t.b i).at_ = (t.b j).at_) : i = j := by
 have := ((h.bl i hi zi).1.uniq (h.bl j hj zj).1 e).2
 exact numI_inj hi hj this
theorem TrOk.n_ne (h : TrOk v t last) {i j : Nat} (hi : i < 9) (hj : j < 9) (si : (t.n i).st = 1) (pi : 0 < (t.n i).ref.at_) (sj : (t.n j).st = 1) (pj : 0 < (t.n j).ref.at_) (e : (t.n i).ref.at_ = (t.n j).ref.at_) : i = j := by
 obtain ⟨p1, q1, r1, -⟩ := h.node hi si pi
 obtain ⟨p2, q2, r2, -⟩ := h.node hj sj pj
 have e2 := (q1.uniq q2 e).2
 rw [pgB, pgB, if_pos r1, if_pos r2] at e2
 exact numI_inj (by omega) (by omega) e2
theorem TrOk.bn_ne (h : TrOk v t last) {i j : Nat} (hi : i < 64) (zi : t.b i ≠ Rf.zero) (hj : j < 9) (sj : (t.n j).st = 1) (pj : 0 < (t.n j).ref.at_) : (t.b i).at_ ≠ (t.n j).ref.at_ := by
 intro e
 obtain ⟨p2, q2, r2, -⟩ := h.node hj sj pj
 have := ((h.bl i hi zi).1.uniq q2 e).1
 omega
end
def bkN (t : Tr) (a : Int) (b : Nat) : Int := if t.b b ≠ Rf.zero ∧ (t.b b).at_ < a then 1 else 0
def ndN (t : Tr) (a : Int) (i : Nat) : Int := if (t.n i).st = 1 ∧ 0 < (t.n i).ref.at_ ∧ (t.n i).ref.at_ < a then 1 else 0
section
variable {x : Pt} {last : Nat → List B8} {seg slot : Int} (h : J x last) (h1 : 0 ≤ seg ∧ seg ≤ 17) (h2 : 0 ≤ slot ∧ slot ≤ 31)
include h h1 h2
theorem J.dead (hl : liveB2 x seg slot = false) (lo : Int) : cntR x.t.refs lo (secOf seg slot + 1) = cntR x.t.refs lo (secOf seg slot) ∧ (∀ b, b < 64 → bkN x.t (secOf seg slot + 1) b = bkN x.t (secOf seg slot) b) ∧ ∀ i, i < 9 → ndN x.t (secOf seg slot + 1) i = ndN x.t (secOf seg slot) i := by
 have hno : ∀ r ∈ x.t.refs, r.at_ ≠ secOf seg slot := fun r hr he => by
  rw [(h.live_iff h1 h2).mpr ⟨r, hr, he⟩] at hl; cases hl
 refine ⟨cntR_none hno, fun b hb => ?_, fun i hi => ?_⟩
 ·unfold bkN
  by_cases hz : x.t.b b = Rf.zero
  ·rw [if_neg (fun h => h.1 hz), if_neg (fun h => h.1 hz)]
  ·have := hno _ (refs_mem.mpr (.inl ⟨b, hb, hz, rfl⟩))
   by_cases hlt : (x.t.b b).at_ < secOf seg slot
   ·rw [if_pos ⟨hz, by omega⟩, if_pos ⟨hz, hlt⟩]
   ·rw [if_neg (by omega), if_neg (by omega)]
 ·unfold ndN
  by_cases hs : (x.t.n i).st = 1 ∧ 0 < (x.t.n i).ref.at_
  ·have := hno _ (refs_mem.mpr (.inr ⟨i, hi, hs.1, hs.2, rfl⟩))
   by_cases hlt : (x.t.n i).ref.at_ < secOf seg slot
   ·rw [if_pos ⟨hs.1, hs.2, by omega⟩, if_pos ⟨hs.1, hs.2, hlt⟩]
   ·rw [if_neg (by omega), if_neg (by omega)]
  ·rw [if_neg (fun h => hs ⟨h.1, h.2.1⟩), if_neg (fun h => hs ⟨h.1, h.2.1⟩)]
theorem J.blockN {b0 : Nat} (hb0 : b0 < 64) (hz : x.t.b b0 ≠ Rf.zero) (he : (x.t.b b0).at_ = secOf seg slot) {lo : Int} (hlo : lo ≤ secOf seg slot) : cntR x.t.refs lo (secOf seg slot + 1) = cntR x.t.refs lo (secOf seg slot) + 1 ∧ (∀ b, b < 64 → bkN x.t (secOf seg slot + 1) b = bkN x.t (secOf seg slot) b + if b = b0 then 1 else 0) ∧ ∀ i, i < 9 → ndN x.t (secOf seg slot + 1) i = ndN x.t (secOf seg slot) i := by
 have _u := And.intro h1 h2
 refine ⟨cntR_one h.tr.nodup hlo ⟨_, refs_mem.mpr (.inl ⟨b0, hb0, hz, rfl⟩), he⟩, fun b hb => ?_, fun i hi => ?_⟩
 ·unfold bkN
  by_cases e : b = b0
  ·subst e
   rw [if_pos ⟨hz, by omega⟩, if_neg (by omega), if_pos rfl]; omega
  ·rw [if_neg e]
   by_cases hzb : x.t.b b = Rf.zero
   ·rw [if_neg (fun h => h.1 hzb), if_neg (fun h => h.1 hzb)]; omega
   ·have : (x.t.b b).at_ ≠ secOf seg slot := fun h' => e (h.tr.b_ne hb hb0 hzb hz (h'.trans he.symm))
    by_cases hlt : (x.t.b b).at_ < secOf seg slot
    ·rw [if_pos ⟨hzb, by omega⟩, if_pos ⟨hzb, hlt⟩]; omega
    ·rw [if_neg (by omega), if_neg (by omega)]; omega
 ·unfold ndN
  by_cases hs : (x.t.n i).st = 1 ∧ 0 < (x.t.n i).ref.at_
  ·have := h.tr.bn_ne hb0 hz hi hs.1 hs.2
   by_cases hlt : (x.t.n i).ref.at_ < secOf seg slot
   ·rw [if_pos ⟨hs.1, hs.2, by omega⟩, if_pos ⟨hs.1, hs.2, hlt⟩]
   ·rw [if_neg (by omega), if_neg (by omega)]
  ·rw [if_neg (fun h => hs ⟨h.1, h.2.1⟩), if_neg (fun h => hs ⟨h.1, h.2.1⟩)]
theorem J.nodeN {n : Nat} (hn : n < 9) (hs : (x.t.n n).st = 1) (hp : 0 < (x.t.n n).ref.at_) (he : (x.t.n n).ref.at_ = secOf seg slot) {lo : Int} (hlo : lo ≤ secOf seg slot) : cntR x.t.refs lo (secOf seg slot + 1) = cntR x.t.refs lo (secOf seg slot) + 1 ∧ (∀ b, b < 64 → bkN x.t (secOf seg slot + 1) b = bkN x.t (secOf seg slot) b) ∧ ∀ i, i < 9 → ndN x.t (secOf seg slot + 1) i = ndN x.t (secOf seg slot) i + if i = n then 1 else 0 := by
 have _u := And.intro h1 h2
 refine ⟨cntR_one h.tr.nodup hlo ⟨_, refs_mem.mpr (.inr ⟨n, hn, hs, hp, rfl⟩), he⟩, fun b hb => ?_, fun i hi => ?_⟩
 ·unfold bkN
  by_cases hzb : x.t.b b = Rf.zero
  ·rw [if_neg (fun h => h.1 hzb), if_neg (fun h => h.1 hzb)]
  ·have := h.tr.bn_ne hb hzb hn hs hp
   by_cases hlt : (x.t.b b).at_ < secOf seg slot
   ·rw [if_pos ⟨hzb, by omega⟩, if_pos ⟨hzb, hlt⟩]
   ·rw [if_neg (by omega), if_neg (by omega)]
 ·unfold ndN
  by_cases e : i = n
  ·subst e
   rw [if_pos ⟨hs, hp, by omega⟩, if_neg (by omega), if_pos rfl]; omega
  ·rw [if_neg e]
   by_cases hsi : (x.t.n i).st = 1 ∧ 0 < (x.t.n i).ref.at_
   ·have : (x.t.n i).ref.at_ ≠ secOf seg slot := fun h' => e (h.tr.n_ne hi hn hsi.1 hsi.2 hs hp (h'.trans he.symm))
    by_cases hlt : (x.t.n i).ref.at_ < secOf seg slot
    ·rw [if_pos ⟨hsi.1, hsi.2, by omega⟩, if_pos ⟨hsi.1, hsi.2, hlt⟩]; omega
    ·rw [if_neg (by omega), if_neg (by omega)]; omega
   ·rw [if_neg (fun h => hsi ⟨h.1, h.2.1⟩), if_neg (fun h => hsi ⟨h.1, h.2.1⟩)]; omega
end
structure Map4 (x : Pt) (last : Nat → List B8) : Prop where
 no : ∀ b, b < 64 → 4 ≤ b → x.t.b b = Rf.zero
 is : ∀ b, b < 4 → (x.t.b b = Rf.zero ↔ last b = [])
theorem Map4.x0 : Map4 x0 (fun _ => []) := ⟨fun b _ _ => new_b b, fun b _ => ⟨fun _ => rfl, fun _ => new_b b⟩⟩
theorem Map4.same {x x' : Pt} {last : Nat → List B8} (h : Map4 x last) (e : ∀ b, x'.t.b b = x.t.b b) : Map4 x' last := ⟨fun b h1 h2 => by rw [e]; exact h.no b h1 h2, fun b h1 => by rw [e]; exact h.is b h1⟩
theorem Map4.bl {x x' : Pt} {last : Nat → List B8} (h : Map4 x last) (e : x'.t.bl = x.t.bl) : Map4 x' last := h.same fun b => by unfold Tr.b; rw [e]
theorem Map4.put {x x' : Pt} {last : Nat → List B8} (h : Map4 x last) {b : Nat} (hb : b < 4) {r : Rf} (hs : Tr.setOk b r) (e : x'.t = x.t.setT b r) {data : List B8} (hd : data.length = 32) : Map4 x' (fun i => if i = b then data else last i) := by
 have hr : r ≠ Rf.zero := by rintro rfl; exact absurd hs.2 (by decide)
 have hdn : data ≠ [] := by rintro rfl; simp at hd
 refine ⟨fun c h1 h2 => ?_, fun c h1 => ?_⟩
 ·rw [e, setT_b, if_neg (fun h' => by have := h'.2; simp at this; omega)]
  exact h.no c h1 h2
 ·rw [e, setT_b]
  by_cases ec : c = b
  ·subst ec
   rw [if_pos ⟨hs, by simp⟩]
   simp only [if_true]
   exact ⟨fun h' => absurd h' hr, fun h' => absurd h' hdn⟩
  ·rw [if_neg (fun h' => ec (by have := h'.2; simpa using this.symm))]
   simp only [if_neg ec]
   exact h.is c h1
theorem Map4.cut {x x' : Pt} {last : Nat → List B8} (h : Map4 x last) {b : Nat} (hb : b < 4) (e : x'.t = x.t.delT b) : Map4 x' (fun i => if i = b then [] else last i) := by
 refine ⟨fun c h1 h2 => ?_, fun c h1 => ?_⟩
 ·rw [e, delT_b, if_neg (fun h' => by have := h'.2; simp at this; omega)]
  exact h.no c h1 h2
 ·rw [e, delT_b]
  by_cases ec : c = b
  ·subst ec
   simp only [if_true, iff_true]
   by_cases hz : x.t.at c = Rf.zero
   ·rw [if_neg (fun h' => h'.1 hz), ← x.t.at_nat (by omega)]; exact hz
   ·rw [if_pos ⟨hz, by simp⟩]
  ·rw [if_neg (fun h' => ec (by have := h'.2; simpa using this.symm))]
   simp only [if_neg ec]
   exact h.is c h1
theorem J.bkN_all {x : Pt} {last : Nat → List B8} (h : J x last) (h4 : Map4 x last) {b : Nat} (hb : b < 4) : bkN x.t 579 b = if (last b) = [] then 0 else 1 := by
 unfold bkN
 by_cases hz : x.t.b b = Rf.zero
 ·rw [if_neg (fun h => h.1 hz), if_pos ((h4.is b hb).mp hz)]
 ·have := h.lg.at_ok (h.tr.bl b (by omega) hz).1.1
  rw [if_pos ⟨hz, this.2.1⟩, if_neg (fun h' => hz ((h4.is b hb).mpr h'))]
theorem J.ndN_all {x : Pt} {last : Nat → List B8} (h : J x last) {i : Nat} (hi : i < 9) : ndN x.t 579 i = if (x.t.n i).st = 1 ∧ 0 < (x.t.n i).ref.at_ then 1 else 0 := by
 unfold ndN
 by_cases hs : (x.t.n i).st = 1 ∧ 0 < (x.t.n i).ref.at_
 ·obtain ⟨pg, h1, -⟩ := h.tr.node hi hs.1 hs.2
  have := h.lg.at_ok h1.1
  rw [if_pos ⟨hs.1, hs.2, this.2.1⟩, if_pos hs]
 ·rw [if_neg (fun h => hs ⟨h.1, h.2.1⟩), if_neg hs]
end Go.Proofs.YtehnkcnjmfbjpaaGreat
end
section
namespace Go.Proofs.YtehnkcnjmfbjpaaGreat
open Go Go.Adm
set_option linter.unusedSimpArgs false
set_option linter.unusedVariables false
set_option maxRecDepth 100000
end Go.Proofs.YtehnkcnjmfbjpaaGreat
end
section
namespace Go.Proofs.YtehnkcnjmfbjpaaGreat
open Go Go.Adm
set_option linter.unusedSimpArgs false
set_option linter.unusedVariables false
set_option maxRecDepth 100000
structure As (x4 x : Pt) (last : Nat → List B8) : Prop where
 j : J x last
 t : x.t = x4.t
 w : x.v.w = x4.v.w
 pk : ∀ a, peekD x.v.d a = peekD x4.v.d a
 up : CyUp x4.v.c x.v.c
theorem As.look {x4 x : Pt} {last : Nat → List B8} (h : As x4 x last) (seg slot : Int) : As x4 (whT x seg slot) last := by
 obtain ⟨a1, a2, a3, a4, -, a6⟩ := h.j.look seg slot
 exact ⟨a1, a6.trans h.t, a4.trans h.w, fun a => (a2 a).trans (h.pk a), h.up.trans a3⟩
theorem As.refl {x : Pt} {last : Nat → List B8} (h : J x last) : As x x last := ⟨h, rfl, rfl, fun _ => rfl, .refl _⟩
theorem As.who {x4 x : Pt} {last : Nat → List B8} (h4 : J x4 last) (h : As x4 x last) (seg slot : Int) : whO x seg slot = whO x4 seg slot := by
 by_cases h1 : (0 ≤ seg ∧ seg ≤ 17) ∧ 0 ≤ slot ∧ slot ≤ 31
 ·have ha := at_in h4.lg.w.g h1.1 h1.2
  exact whO_same (by rw [h.w]) ha (h4.seen (by unfold secOf; omega)) (h.pk _) h.up
 ·rw [whO_out (by rw [h.j.lg.w.g]; exact at_no h1), whO_out (by rw [h4.lg.w.g]; exact at_no h1)]
end Go.Proofs.YtehnkcnjmfbjpaaGreat
end
section
namespace Go.Proofs.YtehnkcnjmfbjpaaGreat
open Go Go.Adm
set_option linter.unusedSimpArgs false
set_option linter.unusedVariables false
set_option maxRecDepth 100000
structure LastM (M : Mem) (lp : Nat) (E : List Nat) (last : Nat → List B8) (ws : List AV) : Prop where
 len : ws.length = 4
 own : own M lp = some ws
 rd : ∀ j, j < 4 → ∃ w, ws[j]? = some w ∧ RdB M w (last j) ∧ ∀ q ∈ blkOf w, q ∉ E ∧ q ≠ lp
 no : lp ∉ E
theorem LastM.kept {M M' : Mem} {lp : Nat} {E E' X : List Nat} {last : Nat → List B8} {ws : List AV} (h : LastM M lp E last ws) (hk : Kept X M M') (hX : ∀ q ∈ X, q ∈ E) (hE : ∀ q ∈ E', q ∈ E ∨ M.length ≤ q) : LastM M' lp E' last ws := by
 have hl := own_lt h.own
 refine ⟨h.len, hk.own h.own (fun h' => h.no (hX _ h')), fun j hj => ?_, fun h' => (hE _ h').elim h.no (fun h => by omega)⟩
 obtain ⟨w, h1, h2, h3⟩ := h.rd j hj
 refine ⟨w, h1, h2.kept hk (fun q o n cap s e h' => (h3 q (by rw [e]; simp [blkOf])).1 (hX _ h')), fun q hq => ⟨fun h' => ?_, (h3 q hq).2⟩⟩
 have hq2 := h2.blk_lt q hq
 exact (hE _ h').elim (h3 q hq).1 (fun h => by omega)
theorem LastM.kept0 {M M' : Mem} {lp : Nat} {E : List Nat} {last : Nat → List B8} {ws : List AV} (h : LastM M lp E last ws) (hk : Kept [] M M') : LastM M' lp E last ws := h.kept hk (by simp) (fun _ h => .inl h)
theorem LastM.set {M : Mem} {lp : Nat} {E : List Nat} {last : Nat → List B8} {ws : List AV} (h : LastM M lp E last ws) {b : Nat} (hb : b < 4) {w : AV} {data : List B8} (hw : RdB M w data) (hq : ∀ q ∈ blkOf w, q ∉ E ∧ q ≠ lp) : LastM (M.set lp (.row (ws.set b w) false)) lp E (fun i => if i = b then data else last i) (ws.set b w) := by
 have hl := own_lt h.own
 have hk := Kept.set1 M lp (.row (ws.set b w) false)
 refine ⟨by rw [List.length_set]; exact h.len, own_set hl _, fun j hj => ?_, h.no⟩
 by_cases e : j = b
 ·subst e
  refine ⟨w, by rw [List.getElem?_set_self (by rw [h.len]; exact hb)], ?_, hq⟩
  rw [if_pos rfl]
  exact hw.kept hk (fun q o n cap s e h' => (hq q (by rw [e]; simp [blkOf])).2 (by simpa using h'))
 ·obtain ⟨w', h1, h2, h3⟩ := h.rd j hj
  refine ⟨w', by rw [List.getElem?_set_ne (fun h => e h.symm)]; exact h1, ?_, h3⟩
  rw [if_neg e]
  exact h2.kept hk (fun q o n cap s e h' => (h3 q (by rw [e]; simp [blkOf])).2 (by simpa using h'))
theorem tabI_get {n : Nat} (f : Nat → Int) {i : Nat} (h : i < n) : (intsC (tab n f))[i]? = some (.int .i64 (f i)) := by
 simp [intsC, tab, h]
theorem tabI_len (n : Nat) (f : Nat → Int) : (intsC (tab n f)).length = n := by rw [intsC_len, tab_len]
theorem tabI_eq {n : Nat} {f g : Nat → Int} (h : ∀ i, i < n → g i = f i) : intsC (tab n g) = intsC (tab n f) := by
 unfold intsC tab
 rw [List.map_map, List.map_map]
 exact List.map_congr_left fun i hi => by simp [h i (List.mem_range.mp hi)]
theorem tabI_set {n : Nat} {f g : Nat → Int} {b : Nat} (hb : b < n) (h : ∀ i, i < n → g i = f i + if i = b then 1 else 0) : splice (intsC (tab n f)) b [.int .i64 (f b + 1)] = intsC (tab n g) := by
 rw [splice_one _ _ _ (by rw [tabI_len]; exact hb)]
 apply List.ext_getElem?
 intro i
 by_cases hi : i < n
 ·rw [tabI_get _ hi, h i hi]
  by_cases e : i = b
  ·subst e; rw [List.getElem?_set_self (by rw [tabI_len]; exact hi), if_pos rfl]
  ·rw [List.getElem?_set_ne (fun h => e h.symm), tabI_get _ hi, if_neg e, Int.add_zero]
 ·rw [List.getElem?_eq_none (by rw [List.length_set, tabI_len]; omega), List.getElem?_eq_none (by rw [tabI_len]; omega)]
theorem bkN_in (t : Tr) (a : Int) (b : Nat) : 0 ≤ bkN t a b ∧ bkN t a b ≤ 1 := by unfold bkN; split <;> omega
theorem ndN_in (t : Tr) (a : Int) (b : Nat) : 0 ≤ ndN t a b ∧ ndN t a b ≤ 1 := by unfold ndN; split <;> omega
theorem PtM.kept {m m1 : Mem} {xp xd xc xu xw xt : Nat} {B V X : List Nat} {x : Pt} (h : PtM m xp xd xc xu xw xt B V x) (hk : Kept X m m1) (hX : ∀ q ∈ B, q ∉ X) (h1 : xp ∉ X) (h2 : xt ∉ X) : PtM m1 xp xd xc xu xw xt B V x := ⟨h.vl.kept hk hX, hk.own h.tr h2, hk.own h.hd h1, h.a1, h.a2⟩
def WellC (M : Mem) (xp xd xc xu xw xt n0 lp : Nat) (p : Int) : Prop := ∃ B V x last ws, PtM M xp xd xc xu xw xt B V x ∧ J x last ∧ Psi x ≤ p ∧ Map4 x last ∧ LastM M lp (xt :: B) last ws ∧ (∀ q ∈ B, n0 ≤ q) ∧ n0 ≤ xp ∧ n0 ≤ xt ∧ n0 ≤ lp ∧ xp ≠ lp
theorem Then.wellC {m0 M M' : Mem} {xp xd xc xu xw xt n0 lp : Nat} {B V : List Nat} {x' : Pt} {last last' : Nat → List B8} {ws : List AV} {p : Int} (h : Then xp xd xc xu xw xt M B V x' M') (hV : ∀ q ∈ V, q ∈ B) (hB : ∀ q ∈ B, n0 ≤ q) (hxp : n0 ≤ xp ∧ n0 ≤ xt ∧ n0 ≤ lp ∧ xp ≠ lp) (hk : Kept [] m0 M) (hn : m0.length = n0) (hJ : J x' last') (hp : Psi x' ≤ p) (h4 : Map4 x' last') (hl : LastM M lp (xt :: B) last ws) (e : last' = last) : Kept [] m0 M' ∧ WellC M' xp xd xc xu xw xt n0 lp p := by
 obtain ⟨B', V', h1, h2, h3, -⟩ := h
 refine ⟨hk.upon h2 fun q hq => ?_, B', V', x', last', ws, h1, hJ, hp, h4, ?_, fun q hq => (h3 q hq).elim (hB q) (fun h => by have := hk.len; omega), hxp⟩
 ·rcases List.mem_cons.mp hq with rfl | hq
  ·omega
  ·have := hB q (hV q hq); omega
 ·rw [e]
  refine hl.kept h2 (fun q hq => ?_) (fun q hq => ?_)
  ·rcases List.mem_cons.mp hq with rfl | hq
   ·simp
   ·exact List.mem_cons_of_mem _ (hV q hq)
  ·rcases List.mem_cons.mp hq with rfl | hq
   ·exact .inl (by simp)
   ·exact (h3 q hq).imp (List.mem_cons_of_mem _) id
structure CM (M : Mem) (xp xd xc xu xw xt : Nat) (B V : List Nat) (lp cb rb bp np : Nat) (x1 : Pt) (last : Nat → List B8) (ws : List AV) (fb fn : Nat → Int) : Prop where
 p : ∃ x, PtM M xp xd xc xu xw xt B V x ∧ As x1 x last
 l : LastM M lp (bp :: np :: xt :: B) last ws
 c : own M cb = some (intsC ((List.range 18).map (cntS x1.t.refs)))
 r : own M rb = some (flat x1.v.u)
 b : own M bp = some (intsC (tab 4 fb))
 n : own M np = some (intsC (tab 9 fn))
structure CD (xp xt : Nat) (B V : List Nat) (cb rb bp np : Nat) : Prop where
 v : ∀ q ∈ V, q ∈ B
 c : cb ∉ B ∧ cb ≠ bp ∧ cb ≠ np
 r : rb ∉ B ∧ rb ≠ bp ∧ rb ≠ np
 b : bp ∉ B ∧ bp ≠ np ∧ xp ≠ bp ∧ xt ≠ bp
 n : np ∉ B ∧ xp ≠ np ∧ xt ≠ np
section
variable {M M' : Mem} {xp xd xc xu xw xt : Nat} {B V : List Nat} {lp cb rb bp np : Nat} {x1 : Pt} {last : Nat → List B8} {ws : List AV} {fb fn : Nat → Int}
theorem CM.kept (h : CM M xp xd xc xu xw xt B V lp cb rb bp np x1 last ws fb fn) (d : CD xp xt B V cb rb bp np) (hk : Kept V M M') {x : Pt} (hp : PtM M' xp xd xc xu xw xt B V x) (hA : As x1 x last) : CM M' xp xd xc xu xw xt B V lp cb rb bp np x1 last ws fb fn :=
 ⟨⟨x, hp, hA⟩, h.l.kept hk (fun q hq => by simp [d.v q hq]) (fun _ h => .inl h), hk.own h.c (fun h => d.c.1 (d.v _ h)), hk.own h.r (fun h => d.r.1 (d.v _ h)), hk.own h.b (fun h => d.b.1 (d.v _ h)), hk.own h.n (fun h => d.n.1 (d.v _ h))⟩
theorem CM.kept0 (h : CM M xp xd xc xu xw xt B V lp cb rb bp np x1 last ws fb fn) (hk : Kept [] M M') : CM M' xp xd xc xu xw xt B V lp cb rb bp np x1 last ws fb fn := by
 obtain ⟨x, hp, hA⟩ := h.p
 exact ⟨⟨x, hp.kept0 hk, hA⟩, h.l.kept0 hk, hk.own h.c (by simp), hk.own h.r (by simp), hk.own h.b (by simp), hk.own h.n (by simp)⟩
theorem CM.setB (h : CM M xp xd xc xu xw xt B V lp cb rb bp np x1 last ws fb fn) (d : CD xp xt B V cb rb bp np) (fb' : Nat → Int) : CM (M.set bp (.row (intsC (tab 4 fb')) false)) xp xd xc xu xw xt B V lp cb rb bp np x1 last ws fb' fn := by
 obtain ⟨x, hp, hA⟩ := h.p
 have hk := Kept.set1 M bp (.row (intsC (tab 4 fb')) false)
 refine ⟨⟨x, hp.kept hk (fun q hq h => d.b.1 (by simp only [List.mem_singleton] at h; rw [← h]; exact hq)) (by simpa using d.b.2.2.1) (by simpa using d.b.2.2.2), hA⟩, h.l.kept hk (by simp) (fun _ h => .inl h), hk.own h.c (by simpa using d.c.2.1), hk.own h.r (by simpa using d.r.2.1), own_set (own_lt h.b) _, hk.own h.n (by simpa using Ne.symm d.b.2.1)⟩
theorem CM.setN (h : CM M xp xd xc xu xw xt B V lp cb rb bp np x1 last ws fb fn) (d : CD xp xt B V cb rb bp np) (fn' : Nat → Int) : CM (M.set np (.row (intsC (tab 9 fn')) false)) xp xd xc xu xw xt B V lp cb rb bp np x1 last ws fb fn' := by
 obtain ⟨x, hp, hA⟩ := h.p
 have hk := Kept.set1 M np (.row (intsC (tab 9 fn')) false)
 refine ⟨⟨x, hp.kept hk (fun q hq h => d.n.1 (by simp only [List.mem_singleton] at h; rw [← h]; exact hq)) (by simpa using d.n.2.1) (by simpa using d.n.2.2), hA⟩, h.l.kept hk (by simp) (fun _ h => .inl h), hk.own h.c (by simpa using d.c.2.2), hk.own h.r (by simpa using d.r.2.2), hk.own h.b (by simpa using d.b.2.1), own_set (own_lt h.n) _⟩
theorem CM.same (h : CM M xp xd xc xu xw xt B V lp cb rb bp np x1 last ws fb fn) {fb' fn' : Nat → Int} (eb : ∀ i, i < 4 → fb' i = fb i) (en : ∀ i, i < 9 → fn' i = fn i) : CM M xp xd xc xu xw xt B V lp cb rb bp np x1 last ws fb' fn' := ⟨h.p, h.l, h.c, h.r, by rw [h.b, tabI_eq eb], by rw [h.n, tabI_eq en]⟩
end
theorem bkN_zero {x : Pt} {last : Nat → List B8} (h : J x last) {b : Nat} (hb : b < 64) : bkN x.t 3 b = 0 := by
 unfold bkN
 by_cases hz : x.t.b b = Rf.zero
 ·rw [if_neg (fun h => h.1 hz)]
 ·have := (h.tr.bl b hb hz).1.1
  rw [if_neg (by omega)]
theorem ndN_zero {x : Pt} {last : Nat → List B8} (h : J x last) {i : Nat} (hi : i < 9) : ndN x.t 3 i = 0 := by
 unfold ndN
 by_cases hs : (x.t.n i).st = 1 ∧ 0 < (x.t.n i).ref.at_
 ·obtain ⟨pg, h1, -⟩ := h.tr.node hi hs.1 hs.2
  have := h1.1
  rw [if_neg (by omega)]
 ·rw [if_neg (fun h => hs ⟨h.1, h.2.1⟩)]
theorem TbOk.at_ {u : List Sg} {seg : Int} {cn : Nat → Int} (h : TbOk u seg cn) {s : Nat} (hs : s < 18) : (flat u)[s * 3 + 1]? = some (.int .i64 (cn s)) := by
 obtain ⟨ag, e⟩ := h.row s hs
 have hl := h.len
 have e2 := flatOf_get Sg.cells_len u s (by omega)
 have e3 : u[s] = ⟨if (s : Int) < seg then 2 else if (s : Int) = seg then 1 else 0, cn s, ag⟩ := by
  rw [List.getElem?_eq_getElem (by omega), Option.some.injEq] at e; exact e
 rw [e3] at e2
 rw [cell_of_part e2 (by omega)]; rfl
def cntJ (l : List Rf) (s j : Nat) : Int := cntR l (3 + 32 * (s : Int)) (3 + 32 * (s : Int) + j)
theorem cntJ_zero (l : List Rf) (s : Nat) : cntJ l s 0 = 0 := by
 unfold cntJ
 rw [show (3 + 32 * (s : Int) + ((0 : Nat) : Int)) = 3 + 32 * (s : Int) by omega, cntR_zero]
theorem cntJ_full (l : List Rf) {s : Nat} (hs : s < 18) : cntJ l s 32 = cntS l s := by
 unfold cntJ
 rw [show (3 + 32 * (s : Int) + ((32 : Nat) : Int)) = 35 + 32 * (s : Int) by omega, cntR_full l hs]
theorem refs_len (t : Tr) : t.refs.length ≤ 73 := by
 have h1 := liveB_len t.bl
 have h2 := liveN_len t.nd
 rw [t.hb] at h1
 rw [t.hn] at h2
 rw [Tr.refs, List.length_append]; omega
theorem cntJ_in (t : Tr) (s j : Nat) : 0 ≤ cntJ t.refs s j ∧ cntJ t.refs s j ≤ 73 := by
 have h1 := cntR_le t.refs (3 + 32 * (s : Int)) (3 + 32 * (s : Int) + j)
 have h2 := refs_len t
 unfold cntJ; omega
theorem J.stepJ {x : Pt} {last : Nat → List B8} (h : J x last) {s j : Nat} (hs : s < 18) (hj : j < 32) :
    (liveB2 x s j = false ∧ cntJ x.t.refs s (j + 1) = cntJ x.t.refs s j ∧ (∀ b, b < 4 → bkN x.t (3 + 32 * (s : Int) + (j + 1 : Nat)) b = bkN x.t (3 + 32 * (s : Int) + j) b) ∧ ∀ i, i < 9 → ndN x.t (3 + 32 * (s : Int) + (j + 1 : Nat)) i = ndN x.t (3 + 32 * (s : Int) + j) i) ∨
    (cntJ x.t.refs s (j + 1) = cntJ x.t.refs s j + 1 ∧ ∃ i, whO x s j = some i ∧ isB x.t i = true ∧
      ((∃ b : Nat, b < 64 ∧ x.t.b b ≠ Rf.zero ∧ i.k = 4 ∧ i.no = b ∧ i.data = last b ∧ (∀ c, c < 4 → bkN x.t (3 + 32 * (s : Int) + (j + 1 : Nat)) c = bkN x.t (3 + 32 * (s : Int) + j) c + if c = b then 1 else 0) ∧ ∀ i, i < 9 → ndN x.t (3 + 32 * (s : Int) + (j + 1 : Nat)) i = ndN x.t (3 + 32 * (s : Int) + j) i) ∨
       (∃ n : Nat, n < 9 ∧ i.k = 5 ∧ i.no = n ∧ (∀ b, b < 4 → bkN x.t (3 + 32 * (s : Int) + (j + 1 : Nat)) b = bkN x.t (3 + 32 * (s : Int) + j) b) ∧ ∀ i, i < 9 → ndN x.t (3 + 32 * (s : Int) + (j + 1 : Nat)) i = ndN x.t (3 + 32 * (s : Int) + j) i + if i = n then 1 else 0))) := by
  have h1 : 0 ≤ (s : Int) ∧ (s : Int) ≤ 17 := by omega
  have h2 : 0 ≤ (j : Int) ∧ (j : Int) ≤ 31 := by omega
  have e1 : 3 + 32 * (s : Int) + (j : Int) = secOf s j := by unfold secOf; omega
  have e2 : 3 + 32 * (s : Int) + ((j + 1 : Nat) : Int) = secOf s j + 1 := by unfold secOf; omega
  have hlo : 3 + 32 * (s : Int) ≤ secOf s j := by omega
  unfold cntJ
  rw [e1, e2]
  cases hl : liveB2 x s j with
  | false =>
    obtain ⟨d1, d2, d3⟩ := h.dead h1 h2 hl (3 + 32 * (s : Int))
    exact .inl ⟨rfl, d1, fun b hb => d2 b (by omega), d3⟩
  | true =>
    right
    unfold liveB2 at hl
    split at hl
    · rename_i i hi
      rcases h.alive h1 h2 hi hl with ⟨b, c1, c2, c3, c4, c5, c6, c7⟩ | ⟨n, c1, c2, c3, c4, c5, c6⟩
      · obtain ⟨d1, d2, d3⟩ := h.blockN h1 h2 c1 c2 c3 hlo
        exact ⟨d1, i, hi, hl, .inl ⟨b, c1, c2, c4, c5, c7, fun c hc => d2 c (by omega), d3⟩⟩
      · obtain ⟨d1, d2, d3⟩ := h.nodeN h1 h2 c1 c2 c3 c4 hlo
        exact ⟨d1, i, hi, hl, .inr ⟨n, c1, c5, c6, fun c hc => d2 c (by omega), d3⟩⟩
    · cases hl
end Go.Proofs.YtehnkcnjmfbjpaaGreat
end
section
namespace Go.Proofs.YtehnkcnjmfbjpaaGreat
open Go Go.Adm
set_option linter.unusedSimpArgs false
set_option linter.unusedVariables false
set_option maxRecDepth 100000
set_option maxHeartbeats 4000000
theorem ans_LiveCounts {m : Mem} {y : AV} {L : List Act} (hy : RdActs m y L) : Ans Tryz.prog 6 [y] m fun r m' => r = .bool true ∧ True := by
 refine ans_ret mixed ok6 ?_
 simp -implicitDefEqProofs (disch := (first | omega | (simp only [lq11] <;> omega) | fail)) only [admQ, lq11, aFill, AK.cls, implies_true, if_true, if_false, seval, -List.reduceReplicate, c6, r6]
 refine (ans_lvfresh m).mono ?_
 rintro _ m1 ⟨xp, xd, xc, xu, xw, xt, B, V, rfl, k1, hP, hxp, hxt, hB⟩
 have k2 := Kept.app [] m1 [Blk.row [.nils, .nils, .nils, .nils] false]
 have o2 : own (m1 ++ [Blk.row [.nils, .nils, .nils, .nils] false]) m1.length = some [.nils, .nils, .nils, .nils] := by rw [own_app_at0]; rfl
 simp -implicitDefEqProofs (disch := (first | omega | (simp only [lq11] <;> omega) | fail)) only [admQ, lq11, aFill, AK.cls, implies_true, if_true, if_false, seval, -List.reduceReplicate]
 have hP2 := hP.kept0 k2
 have lB := hP.vl.lt
 have lxt := own_lt hP.tr
 have l01 := k1.len
 have hL2 : LastM (m1 ++ [Blk.row [.nils, .nils, .nils, .nils] false]) m1.length (xt :: B) (fun _ => []) [.nils, .nils, .nils, .nils] := by
  refine ⟨rfl, o2, fun j hj => ⟨.nils, ?_, .nils _, by simp [blkOf]⟩, fun h => ?_⟩
  ·have : j = 0 ∨ j = 1 ∨ j = 2 ∨ j = 3 := by omega
   rcases this with rfl | rfl | rfl | rfl <;> rfl
  ·rcases List.mem_cons.mp h with h | h
   ·omega
   ·have := lB _ h; omega
 have k12 := k1.trans k2
 generalize m1 ++ [Blk.row [.nils, .nils, .nils, .nils] false] = m2 at *
 generalize hlp : m1.length = lp at *
 refine LoopW.on (fun i : Nat => [(0, y), (3, .ptr xp 0), (4, .ptr lp 0), (5, .int .i64 i)]) (fun i => 150 - i)
  (fun i M => i ≤ 150 ∧ Kept [] m M ∧ WellC M xp xd xc xu xw xt m.length lp (51 * i)) ?_ 0 _ _ rfl ⟨by omega, k12, B, V, x0, _, _, hP2, J0, by decide, Map4.x0, hL2, hB, hxp, hxt, by omega, by have := own_lt hP.hd; omega⟩
 rintro i M X ⟨hi, kk, B, V, x, last, ws, hP, hJ, hps, h4, hLM, hB, hxp, hxt, hlp0, hxl0⟩ hX
 have hlen := (hy.kept0 kk).len
 by_cases hlt : i < L.length ∧ i < 150
 ·obtain ⟨a, ha⟩ : ∃ a, L[i]? = some a := ⟨_, List.getElem?_eq_getElem hlt.1⟩
  obtain ⟨b, cap, xs, pd, rfl, hb, g0, g1, g2, hpd, -, hxl⟩ := (hy.kept0 kk).at_ ha
  simp -implicitDefEqProofs (disch := (first | omega | (simp only [lq11] <;> omega) | fail)) only [admQ, lq11, aFill, AK.cls, implies_true, if_true, if_false, seval, -List.reduceReplicate, hlen, dec_t (show (i : Int) < L.length by omega), hb, g1, hxl]
  refine (ans_pick a.2.1 4 (by omega) M).mono ?_
  rintro _ M1 ⟨rfl, hM1⟩
  subst hM1
  obtain ⟨p1, p2⟩ := pickI_in a.2.1 4 (by omega)
  obtain ⟨bn, hbn⟩ := Int.eq_ofNat_of_zero_le p1
  rw [hbn]
  have hb4 : bn < 4 := by omega
  have k2 := Kept.app [] M1 [Blk.row (bys (List.replicate 32 0#8)) false]
  have z2 : own (M1 ++ [Blk.row (bys (List.replicate 32 0#8)) false]) M1.length = some (bys (List.replicate 32 0#8)) := by rw [own_app_at0]; rfl
  have hr32 : rep 32 [AV.int .u8 0] = bys (List.replicate 32 0#8) := by rw [← bys_rep]; simp [rep]
  obtain ⟨b', cap', xs', pd', hbe, hb', g0', g1', g2', hpd', -, hxl'⟩ := (hy.kept0 (kk.trans k2)).at_ ha
  cases hbe
  have hdl : RdB (M1 ++ [Blk.row (bys (List.replicate 32 0#8)) false]) pd' a.2.2 := hpd'
  simp -implicitDefEqProofs (disch := (first | omega | (simp only [lq11] <;> omega) | fail)) only [admQ, lq11, aFill, AK.cls, implies_true, if_true, if_false, seval, -List.reduceReplicate, hr32, hb', g2', hxl', hlen, dec_t (show (i : Int) < L.length by omega)]
  obtain ⟨rc, hcp⟩ := copy32 (cap := 32) (s := 0) hdl z2
  refine someW_eq hcp ?_
  have k4 : Kept [] M1 ((M1 ++ [Blk.row (bys (List.replicate 32 0#8)) false]).set M1.length (.row (bys (datB a.2.2)) false)) := k2.write (.inr (Nat.le_refl _)) _
  have z4 := own_set (own_lt z2) (bys (datB a.2.2))
  have hp4 := hP.kept0 k4
  have hl4 := hLM.kept0 k4
  have kk4 := kk.trans k4
  clear hcp hpd' hdl k2
  generalize (M1 ++ [Blk.row (bys (List.replicate 32 0#8)) false]).set M1.length (.row (bys (datB a.2.2)) false) = M4 at *
  obtain ⟨b', cap', xs4, pd4, hbe, hb4', h0', h1', h2', hpd4, -, hxl4⟩ := (hy.kept0 kk4).at_ ha
  cases hbe
  have dl : (datB a.2.2).length = 32 := datB_len _
  have hyd : RdB M4 (.sl M1.length 0 32 32 0) (datB a.2.2) := by have := RdB.row (l := datB a.2.2) 32 0 (rowOf_own z4) (by omega); rw [dl] at this; exact this
  have hBM : ∀ q ∈ B, q < M1.length := hP.vl.lt
  have lxtM := own_lt hP.tr
  have hVB := hP.vl.sub
  simp -implicitDefEqProofs (disch := (first | omega | (simp only [lq11] <;> omega) | fail)) only [admQ, lq11, aFill, AK.cls, implies_true, if_true, if_false, seval, -List.reduceReplicate, hb4', h0', hxl4, dec_t (show (i : Int) < L.length by omega), hlen]
  refine (ans_pick a.1 7 (by omega) M4).mono ?_
  rintro _ M5 ⟨rfl, hM5⟩
  subst hM5
  obtain ⟨q1, q2⟩ := pickI_in a.1 7 (by omega)
  generalize pickI a.1 7 = kd at *
  have hXV : ∀ q ∈ xt :: V, q ∈ xt :: B := fun q hq => by
   rcases List.mem_cons.mp hq with rfl | hq
   ·simp
   ·exact List.mem_cons_of_mem _ (hVB q hq)
  rcases (show kd = 0 ∨ kd = 1 ∨ kd = 2 ∨ kd = 3 ∨ kd = 4 ∨ kd = 5 ∨ kd = 6 by omega) with hk | hk | hk | hk | hk | hk | hk
  case' inr.inr.inr.inl =>
   subst hk
   simp -implicitDefEqProofs (disch := (first | omega | (simp only [lq11] <;> omega) | fail)) only [admQ, lq11, aFill, AK.cls, implies_true, if_true, if_false, seval, -List.reduceReplicate]
   refine Ans.mono (pj_cut hp4 hJ (by omega) (b := bn) (by omega)) ?_
   rintro _ M6 ⟨rfl, B6, V6, hP6, k6, hB6, hV6⟩
   obtain ⟨-, s2, s3, -, s5⟩ := cut_step hJ (by omega) (b := bn) (by omega)
   have hE6 : ∀ q ∈ xt :: B6, q ∈ xt :: B ∨ M5.length ≤ q := fun q hq => by
    rcases List.mem_cons.mp hq with rfl | hq
    ·exact .inl (by simp)
    ·exact (hB6 q hq).imp (List.mem_cons_of_mem _) id
   have hl6 := hl4.kept k6 hXV hE6
   have hwo := hl6.own
   have hwl := hl6.len
   have hs : splice ws bn [AV.nils] = ws.set bn .nils := splice_one _ _ _ (by omega)
   simp -implicitDefEqProofs (disch := (first | omega | (simp only [lq11] <;> omega) | fail)) only [admQ, lq11, aFill, AK.cls, implies_true, if_true, if_false, seval, -List.reduceReplicate, rowOf_own hwo, hwo, hwl, hs]
   have l56 := k6.len
   have hl7 := hl6.set (b := bn) hb4 (w := .nils) (data := []) (.nils _) (by simp [blkOf])
   have hP7 := hP6.kept (Kept.set1 M6 lp (.row (ws.set bn .nils) false)) (fun q hq h => by
    simp only [List.mem_singleton] at h
    subst h
    exact hl6.no (List.mem_cons_of_mem _ hq)) (by simpa using hxl0) (by simp only [List.mem_singleton]; intro h; exact hl6.no (by rw [h]; simp))
   refine hX (i + 1) _ _ rfl (by omega) ⟨by omega, ?_, B6, V6, _, _, _, hP7, s2, by omega, h4.cut hb4 s5, hl7, fun q hq => (hB6 q hq).elim (hB q) (fun h => by have := kk4.len; omega), hxp, hxt, hlp0, hxl0⟩
   refine (kk4.upon k6 (fun q hq => ?_)).upon (Kept.set1 _ _ _) (fun q hq => by simp only [List.mem_singleton] at hq; omega)
   rcases List.mem_cons.mp hq with rfl | hq
   ·omega
   ·have := hB q (hVB q hq); omega
  case' inr.inr.inr.inr.inl =>
   subst hk
   obtain ⟨b', cap', xs5, pd5, hbe, hb5', h05', h15', h25', hpd5, -, hxl5⟩ := (hy.kept0 kk4).at_ ha
   cases hbe
   simp -implicitDefEqProofs (disch := (first | omega | (simp only [lq11] <;> omega) | fail)) only [admQ, lq11, aFill, AK.cls, implies_true, if_true, if_false, seval, -List.reduceReplicate, hb5', h15', hxl5, dec_t (show (i : Int) < L.length by omega), hlen]
   refine (ans_pick a.2.1 9 (by omega) M5).mono ?_
   rintro _ M6 ⟨rfl, hM6⟩
   subst hM6
   simp -implicitDefEqProofs (disch := (first | omega | (simp only [lq11] <;> omega) | fail)) only [admQ, lq11, aFill, AK.cls, implies_true, if_true, if_false, seval, -List.reduceReplicate]
   refine Ans.mono (pj_touch hp4 hJ (pickI a.2.1 9)) ?_
   rintro _ M7 ⟨rfl, hT⟩
   obtain ⟨s2, s3, -, s5⟩ := touch_step hJ (pickI a.2.1 9)
   simp -implicitDefEqProofs (disch := (first | omega | (simp only [lq11] <;> omega) | fail)) only [admQ, lq11, aFill, AK.cls, implies_true, if_true, if_false, seval, -List.reduceReplicate]
   exact hX (i + 1) _ _ rfl (by omega) ⟨by omega, hT.wellC (n0 := m.length) hVB hB ⟨hxp, hxt, hlp0, hxl0⟩ kk4 rfl s2 (by omega) (h4.same fun b => by rw [s5, touchT_b]) hl4 rfl⟩
  case' inr.inr.inr.inr.inr.inl =>
   subst hk
   simp -implicitDefEqProofs (disch := (first | omega | (simp only [lq11] <;> omega) | fail)) only [admQ, lq11, aFill, AK.cls, implies_true, if_true, if_false, seval, -List.reduceReplicate]
   refine Ans.mono (pj_save hp4 hJ (by omega)) ?_
   rintro _ M6 ⟨rfl, hT⟩
   obtain ⟨-, s2, s3, -, s5, -⟩ := save_step x.t.dirtyL hJ (by omega) rfl
   simp -implicitDefEqProofs (disch := (first | omega | (simp only [lq11] <;> omega) | fail)) only [admQ, lq11, aFill, AK.cls, implies_true, if_true, if_false, seval, -List.reduceReplicate]
   exact hX (i + 1) _ _ rfl (by omega) ⟨by omega, hT.wellC (n0 := m.length) hVB hB ⟨hxp, hxt, hlp0, hxl0⟩ kk4 rfl s2 (by omega) (h4.bl s5) hl4 rfl⟩
  case' inr.inr.inr.inr.inr.inr =>
   subst hk
   have hh4 := hp4.hd
   unfold ptC at hh4
   simp -implicitDefEqProofs (disch := (first | omega | (simp only [lq11] <;> omega) | fail)) only [admQ, lq11, aFill, AK.cls, implies_true, if_true, if_false, seval, -List.reduceReplicate, rowOf_own hh4]
   refine Ans.mono (pj_close hp4 hJ (by omega)) ?_
   rintro _ M6 ⟨rfl, hT⟩
   obtain ⟨-, s2, s3, -⟩ := close_step hJ (by omega)
   simp -implicitDefEqProofs (disch := (first | omega | (simp only [lq11] <;> omega) | fail)) only [admQ, lq11, aFill, AK.cls, implies_true, if_true, if_false, seval, -List.reduceReplicate]
   exact hX (i + 1) _ _ rfl (by omega) ⟨by omega, hT.wellC (n0 := m.length) hVB hB ⟨hxp, hxt, hlp0, hxl0⟩ kk4 rfl s2 (by omega) (h4.same fun b => rfl) hl4 rfl⟩
  all_goals
   subst hk
   simp -implicitDefEqProofs (disch := (first | omega | (simp only [lq11] <;> omega) | fail)) only [admQ, lq11, aFill, AK.cls, implies_true, if_true, if_false, seval, -List.reduceReplicate]
   refine Ans.mono (pj_put hp4 hJ (by omega) (b := bn) (by omega) hyd (fun q hq h => by simp only [blkOf, List.mem_singleton] at hq; have := hBM q h; omega) dl) ?_
   rintro _ M6 ⟨rfl, B6, V6, hP6, k6, hB6, hV6⟩
   obtain ⟨-, s2, s3, -, rr, s5, s6, -⟩ := put_step hJ (by omega) (b := bn) (by omega) dl
   have hE6 : ∀ q ∈ xt :: B6, q ∈ xt :: B ∨ M5.length ≤ q := fun q hq => by
    rcases List.mem_cons.mp hq with rfl | hq
    ·exact .inl (by simp)
    ·exact (hB6 q hq).imp (List.mem_cons_of_mem _) id
   have hl6 := hl4.kept k6 hXV hE6
   have hwo := hl6.own
   have hwl := hl6.len
   have hs : splice ws bn [AV.sl M1.length 0 32 32 0] = ws.set bn (.sl M1.length 0 32 32 0) := splice_one _ _ _ (by omega)
   simp -implicitDefEqProofs (disch := (first | omega | (simp only [lq11] <;> omega) | fail)) only [admQ, lq11, aFill, AK.cls, implies_true, if_true, if_false, seval, -List.reduceReplicate, rowOf_own hwo, hwo, hwl, hs]
   have l56 := k6.len
   have hl7 := hl6.set (b := bn) hb4 (hyd.kept k6 (fun q o n cap s e h => by
    cases e
    rcases List.mem_cons.mp (hXV _ h) with h | h
    ·omega
    ·have := hBM _ h; omega)) (fun q hq => by
    simp only [blkOf, List.mem_singleton] at hq
    subst hq
    refine ⟨fun h => ?_, by have := own_lt hLM.own; omega⟩
    rcases hE6 _ h with h | h
    ·rcases List.mem_cons.mp h with h | h
     ·omega
     ·have := hBM _ h; omega
    ·have := own_lt z4; omega)
   have hP7 := hP6.kept (Kept.set1 M6 lp (.row (ws.set bn (.sl M1.length 0 32 32 0)) false)) (fun q hq h => by
    simp only [List.mem_singleton] at h
    subst h
    exact hl6.no (List.mem_cons_of_mem _ hq)) (by simpa using hxl0) (by simp only [List.mem_singleton]; intro h; exact hl6.no (by rw [h]; simp))
   refine hX (i + 1) _ _ rfl (by omega) ⟨by omega, ?_, B6, V6, _, _, _, hP7, s2, by omega, h4.put hb4 s6 s5 dl, hl7, fun q hq => (hB6 q hq).elim (hB q) (fun h => by have := kk4.len; omega), hxp, hxt, hlp0, hxl0⟩
   refine (kk4.upon k6 (fun q hq => ?_)).upon (Kept.set1 _ _ _) (fun q hq => by simp only [List.mem_singleton] at hq; omega)
   rcases List.mem_cons.mp hq with rfl | hq
   ·omega
   ·have := hB q (hVB q hq); omega
 ·have fin1 : (i : Int) < L.length → ¬ (i : Int) < 150 := by omega
  by_cases e1 : (i : Int) < L.length
  case' neg => simp -implicitDefEqProofs (disch := (first | omega | (simp only [lq11] <;> omega) | fail)) only [admQ, lq11, aFill, AK.cls, implies_true, if_true, if_false, seval, -List.reduceReplicate, hlen, dec_f e1]
  case' pos => simp -implicitDefEqProofs (disch := (first | omega | (simp only [lq11] <;> omega) | fail)) only [admQ, lq11, aFill, AK.cls, implies_true, if_true, if_false, seval, -List.reduceReplicate, hlen, dec_t e1, dec_f (fin1 e1)]
  all_goals
   clear fin1 e1
   refine Ans.mono (pj_counts hP hJ) ?_
   rintro _ M1 ⟨cb, rfl, oc, lc, k1'⟩
   have hh1 := (hP.kept0 k1').hd
   unfold ptC at hh1
   simp -implicitDefEqProofs (disch := (first | omega | (simp only [lq11] <;> omega) | fail)) only [admQ, lq11, aFill, AK.cls, implies_true, if_true, if_false, seval, -List.reduceReplicate, rowOf_own hh1]
   obtain ⟨Wd, Rd, Wc, Rc, bu, en, hx, -, -⟩ := (hP.kept0 k1').vl
   have hul := hJ.lg.w.tb.len
   refine (ans_segs hx.tb (by omega)).mono ?_
   rintro _ M2 ⟨k2', rb, cap, k0, rfl, lr, orr⟩
   rw [hul]
   have oc2 := k2'.own oc (by simp)
   have hP2 := (hP.kept0 k1').kept0 k2'
   have hL2 := (hLM.kept0 k1').kept0 k2'
   clear hx
   have hh2 := hP2.hd
   unfold ptC at hh2
   have hgs : x.v.w.g.s = 18 := by rw [hJ.lg.w.g]; rfl
   have hgn : x.v.w.g.n = 32 := by rw [hJ.lg.w.g]; rfl
   simp -implicitDefEqProofs (disch := (first | omega | (simp only [lq11] <;> omega) | fail)) only [admQ, lq11, aFill, AK.cls, implies_true, if_true, if_false, seval, -List.reduceReplicate, rowOf_own hh1, rowOf_own hh2, hgs]
   have k3' := Kept.app [] M2 [Blk.row [.int .i64 0, .int .i64 0, .int .i64 0, .int .i64 0] false, .row (splice (List.replicate 9 (.int .i64 0)) 0 (List.replicate 9 (.int .i64 0))) false]
   have ob : own (M2 ++ [Blk.row [.int .i64 0, .int .i64 0, .int .i64 0, .int .i64 0] false, .row (splice (List.replicate 9 (.int .i64 0)) 0 (List.replicate 9 (.int .i64 0))) false]) M2.length = some (intsC (tab 4 (bkN x.t 3))) := by
    rw [own_app_at0, tabI_eq (f := fun _ => 0) (fun i hi => bkN_zero hJ (by omega))]; rfl
   have on : own (M2 ++ [Blk.row [.int .i64 0, .int .i64 0, .int .i64 0, .int .i64 0] false, .row (splice (List.replicate 9 (.int .i64 0)) 0 (List.replicate 9 (.int .i64 0))) false]) (M2.length + 1) = some (intsC (tab 9 (ndN x.t 3))) := by
    rw [own_app_at, tabI_eq (f := fun _ => 0) (fun i hi => ndN_zero hJ (by omega))]; rfl
   have lB2 := hP.vl.lt
   have lxp2 := own_lt hP.hd
   have lxt2 := own_lt hP.tr
   have l1' := k1'.len
   have l2' := k2'.len
   have lcb := own_lt oc2
   have lrb := own_lt orr
   have lcb1 := own_lt oc
   have hCD : CD xp xt B V cb rb M2.length (M2.length + 1) := by
    refine ⟨hP.vl.sub, ⟨fun h => ?_, by omega, by omega⟩, ⟨fun h => ?_, by omega, by omega⟩, ⟨fun h => ?_, by omega, by omega, by omega⟩, ⟨fun h => ?_, by omega, by omega⟩⟩ <;> (have := lB2 _ h; omega)
   have hCM : CM (M2 ++ [Blk.row [.int .i64 0, .int .i64 0, .int .i64 0, .int .i64 0] false, .row (splice (List.replicate 9 (.int .i64 0)) 0 (List.replicate 9 (.int .i64 0))) false]) xp xd xc xu xw xt B V lp cb rb M2.length (M2.length + 1) x last ws (bkN x.t 3) (ndN x.t 3) :=
    ⟨⟨x, hP2.kept0 k3', .refl hJ⟩, hL2.kept k3' (by simp) (fun q hq => by
     simp only [List.mem_cons] at hq
     rcases hq with rfl | rfl | rfl | hq
     ·exact .inr (Nat.le_refl _)
     ·exact .inr (Nat.le_succ _)
     ·exact .inl (by simp)
     ·exact .inl (by simp [hq])), k3'.own oc2 (by simp), k3'.own orr (by simp), ob, on⟩
   generalize M2 ++ [Blk.row [.int .i64 0, .int .i64 0, .int .i64 0, .int .i64 0] false, .row (splice (List.replicate 9 (.int .i64 0)) 0 (List.replicate 9 (.int .i64 0))) false] = M3 at *
   generalize M2.length + 1 = np at *
   generalize M2.length = bp at *
   clear hX hP2 hL2 k3' ob on
   refine LoopW.on (fun s : Nat => [(3, .ptr xp 0), (4, .ptr lp 0), (9, .sl cb 0 18 18 0), (10, .sl rb 0 18 cap k0), (11, .ptr bp 0), (12, .ptr np 0), (13, .int .i64 s)]) (fun s => 18 - s)
    (fun s M => s ≤ 18 ∧ CM M xp xd xc xu xw xt B V lp cb rb bp np x last ws (bkN x.t (3 + 32 * (s : Int))) (ndN x.t (3 + 32 * (s : Int)))) ?_ 0 _ _ rfl ⟨by omega, by rw [show (3 + 32 * ((0 : Nat) : Int)) = 3 by omega]; exact hCM⟩
   rintro s M X ⟨hs, hC⟩ hX
   have hhx : ∀ {M' : Mem} {fb fn : Nat → Int}, CM M' xp xd xc xu xw xt B V lp cb rb bp np x last ws fb fn → own M' xp = some [.ptr xd 0, .iface (cyT x.v.c) (.ptr xc 0), .int .i64 18, .int .i64 32, .int .i64 4, .ptr xt 0, .ptr xu 0, .ptr xw 0] := by
    intro M' fb fn h
    obtain ⟨x', hp', hA'⟩ := h.p
    have h1 := hp'.hd
    have h2 : x'.v.w.g = gS := by rw [hA'.w]; exact hJ.lg.w.g
    unfold ptC at h1
    rw [h2, hA'.up.ty] at h1
    exact h1
   have hh := hhx hC
   by_cases hlt : s < 18
   ·simp -implicitDefEqProofs (disch := (first | omega | (simp only [lq11] <;> omega) | fail)) only [admQ, lq11, aFill, AK.cls, implies_true, if_true, if_false, seval, -List.reduceReplicate, rowOf_own hh, dec_t (show (s : Int) < 18 by omega)]
    refine LoopW.on (fun j : Nat => [(3, .ptr xp 0), (4, .ptr lp 0), (9, .sl cb 0 18 18 0), (10, .sl rb 0 18 cap k0), (11, .ptr bp 0), (12, .ptr np 0), (13, .int .i64 s), (14, .int .i64 (cntJ x.t.refs s j)), (15, .int .i64 j)]) (fun j => 32 - j)
     (fun j M => j ≤ 32 ∧ CM M xp xd xc xu xw xt B V lp cb rb bp np x last ws (bkN x.t (3 + 32 * (s : Int) + j)) (ndN x.t (3 + 32 * (s : Int) + j))) ?_ 0 _ _ (by rw [cntJ_zero]; rfl) ⟨by omega, by rw [show (3 + 32 * (s : Int) + ((0 : Nat) : Int)) = 3 + 32 * (s : Int) by omega]; exact hC⟩
    rintro j M' X' ⟨hj, hC'⟩ hX'
    have hh' := hhx hC'
    by_cases hlt' : j < 32
    ·simp -implicitDefEqProofs (disch := (first | omega | (simp only [lq11] <;> omega) | fail)) only [admQ, lq11, aFill, AK.cls, implies_true, if_true, if_false, seval, -List.reduceReplicate, rowOf_own hh', dec_t (show (j : Int) < 32 by omega)]
     obtain ⟨x', hp', hA'⟩ := hC'.p
     refine Ans.mono (pj_what hp' hA'.j s j) ?_
     rintro _ M4 ⟨w, rfl, rw4, bl4, k4', hP4⟩
     rw [hA'.who hJ] at rw4 ⊢
     have hA4 := hA'.look s j
     generalize whT x' s j = x4 at *
     have hC4 := hC'.kept hCD k4' hP4 hA4
     have hiC : ∀ i w, (itC i w).length = 36 := itC_len
     have hZS : ∀ i w, splice (AV.int .i64 0 :: .int .i64 0 :: .int .i64 0 :: (bys (List.replicate 32 0#8) ++ [.nils])) 0 (itC i w) = itC i w := fun i w => splice_full (by rw [itC_len]; rfl)
     have k5' := Kept.app [] M4 [Blk.row (itC ((whO x s j).getD Itm.zero) w) false]
     have o5 : own (M4 ++ [Blk.row (itC ((whO x s j).getD Itm.zero) w) false]) M4.length = some (itC ((whO x s j).getD Itm.zero) w) := by rw [own_app_at0]; rfl
     have hC5 := hC4.kept0 k5'
     have hP5 := hP4.kept0 k5'
     have rw5 := rw4.kept0 k5'
     simp -implicitDefEqProofs (disch := (first | omega | (simp only [lq11] <;> omega) | fail)) only [admQ, lq11, aFill, AK.cls, implies_true, if_true, if_false, seval, -List.reduceReplicate, hiC, hZS]
     generalize M4 ++ [Blk.row (itC ((whO x s j).getD Itm.zero) w) false] = M5 at *
     rcases hJ.stepJ hlt hlt' with ⟨d0, d1, d2, d3⟩ | ⟨d1, i, hi, d0, hcase⟩
     ·have hfin := hC5.same d2 d3
      cases ho : whO x s j with
      | none =>
       rw [ho] at o5 rw5
       simp only [Option.getD_none, Option.isSome_none] at rw5 o5 ⊢
       simp -implicitDefEqProofs (disch := (first | omega | (simp only [lq11] <;> omega) | fail)) only [admQ, lq11, aFill, AK.cls, implies_true, if_true, if_false, seval, -List.reduceReplicate]
       exact hX' (j + 1) _ _ (by rw [d1]; rfl) (by omega) ⟨by omega, hfin⟩
      | some i =>
       have hb : isB x.t i = false := by unfold liveB2 at d0; rw [ho] at d0; exact d0
       rw [ho] at o5 rw5
       simp only [Option.getD_some, Option.isSome_some] at rw5 o5 ⊢
       simp -implicitDefEqProofs (disch := (first | omega | (simp only [lq11] <;> omega) | fail)) only [admQ, lq11, aFill, AK.cls, implies_true, if_true, if_false, seval, -List.reduceReplicate, rowOf_own o5, itC_t, hiC]
       refine Ans.mono (pj_is hP5 hA4.j i (rd_one rw5)) ?_
       rintro _ M6 ⟨rfl, k6'⟩
       rw [hA4.t, hb]
       simp -implicitDefEqProofs (disch := (first | omega | (simp only [lq11] <;> omega) | fail)) only [admQ, lq11, aFill, AK.cls, implies_true, if_true, if_false, seval, -List.reduceReplicate]
       exact hX' (j + 1) _ _ (by rw [d1]; rfl) (by omega) ⟨by omega, hfin.kept0 k6'⟩
     ·rw [hi] at o5 rw5 ⊢
      simp only [Option.getD_some, Option.isSome_some] at rw5 o5 ⊢
      simp -implicitDefEqProofs (disch := (first | omega | (simp only [lq11] <;> omega) | fail)) only [admQ, lq11, aFill, AK.cls, implies_true, if_true, if_false, seval, -List.reduceReplicate, rowOf_own o5, itC_t, hiC]
      refine Ans.mono (pj_is hP5 hA4.j i (rd_one rw5)) ?_
      rintro _ M6 ⟨rfl, k6'⟩
      rw [hA4.t, d0]
      have hC6 := hC5.kept0 k6'
      have rw6 := rw5.kept0 k6'
      have o6 := k6'.own o5 (by simp)
      have cj := cntJ_in x.t s j
      have hw : IntKind.i64.wrap (cntJ x.t.refs s j + 1) = cntJ x.t.refs s (j + 1) := by rw [d1]; exact wrap_i64 (by omega) (by omega)
      rcases hcase with ⟨b, c1, c2, c3, c4, c5, c6, c7⟩ | ⟨n, c1, c2, c3, c6, c7⟩
      ·have hb4 : b < 4 := Classical.byContradiction fun h => c2 (h4.no b c1 (by omega))
       have hb3 : decide ((b : Int) > 3) = false := by simp; omega
       obtain ⟨wb, g1, g2, g3⟩ := hC6.l.rd b hb4
       have glen := hC6.l.len
       have gown := hC6.l.own
       simp -implicitDefEqProofs (disch := (first | omega | (simp only [lq11] <;> omega) | fail)) only [admQ, lq11, aFill, AK.cls, implies_true, if_true, if_false, seval, -List.reduceReplicate, rowOf_own o6, itC_k, itC_n, itC_w, hiC, hw, c3, c4, hb3, rowOf_own gown, gown, g1, glen]
       have hdl : i.data.length < 1152921504606846976 := by
        rw [c5, (hJ.tr.bl b c1 c2).2]; omega
       refine (ans_samebytes rw6 g2 hdl).mono ?_
       rintro _ M7 ⟨rfl, hM7⟩
       subst hM7
       rw [c5, beq_self_eq_true]
       have v1 := bkN_in x.t (3 + 32 * (s : Int) + j) b
       have hbb := hC6.b
       generalize hfb : bkN x.t (3 + 32 * (s : Int) + j) = fb at *
       have hbg := tabI_get fb hb4
       have hbl := tabI_len 4 fb
       have hbw : IntKind.i64.wrap (fb b + 1) = fb b + 1 := wrap_i64 (by omega) (by omega)
       have hbs := tabI_set hb4 c6
       simp -implicitDefEqProofs (disch := (first | omega | (simp only [lq11] <;> omega) | fail)) only [admQ, lq11, aFill, AK.cls, implies_true, if_true, if_false, seval, -List.reduceReplicate, rowOf_own o6, itC_k, itC_n, itC_w, hiC, c4, rowOf_own hbb, hbb, hbg, hbl, hbw, hbs]
       have ec : ((3 + 32 * s + (j + 1) : Nat) : Int) = 3 + 32 * (s : Int) + ((j + 1 : Nat) : Int) := by omega
       rw [ec]
       exact hX' (j + 1) _ _ rfl (by omega) ⟨by omega, (hC6.setB hCD _).same (fun _ _ => rfl) c7⟩
      ·have v1 := ndN_in x.t (3 + 32 * (s : Int) + j) n
       have hbb := hC6.n
       generalize hfb : ndN x.t (3 + 32 * (s : Int) + j) = fb at *
       have hbg := tabI_get fb c1
       have hbl := tabI_len 9 fb
       have hbw : IntKind.i64.wrap (fb n + 1) = fb n + 1 := wrap_i64 (by omega) (by omega)
       have hbs := tabI_set c1 c7
       simp -implicitDefEqProofs (disch := (first | omega | (simp only [lq11] <;> omega) | fail)) only [admQ, lq11, aFill, AK.cls, implies_true, if_true, if_false, seval, -List.reduceReplicate, rowOf_own o6, itC_k, itC_n, itC_w, hiC, hw, c2, c3, rowOf_own hbb, hbb, hbg, hbl, hbw, hbs]
       have ec : ((3 + 32 * s + (j + 1) : Nat) : Int) = 3 + 32 * (s : Int) + ((j + 1 : Nat) : Int) := by omega
       rw [ec]
       exact hX' (j + 1) _ _ rfl (by omega) ⟨by omega, (hC6.setN hCD _).same c6 (fun _ _ => rfl)⟩
    ·obtain rfl : j = 32 := by omega
     have hcc : (intsC ((List.range 18).map (cntS x.t.refs)))[s]? = some (.int .i64 (cntS x.t.refs s)) := tabI_get _ hlt
     have hrr := hJ.lg.w.tb.at_ hlt
     have hcl : (intsC ((List.range 18).map (cntS x.t.refs))).length = 18 := tabI_len _ _
     have hfl : (flat x.v.u).length = 54 := by rw [flat_len, hul]
     have e0 : (cntS x.t.refs s == cntS x.t.refs s) = true := beq_self_eq_true _
     simp -implicitDefEqProofs (disch := (first | omega | (simp only [lq11] <;> omega) | fail)) only [admQ, lq11, aFill, AK.cls, implies_true, if_true, if_false, seval, -List.reduceReplicate, rowOf_own hh', rowOf_own hC'.c, rowOf_own hC'.r, hcc, hrr, cntJ_full _ hlt, hcl, hfl, e0, Bool.not_true]
     exact hX (s + 1) _ _ rfl (by omega) ⟨by omega, by rw [show (3 + 32 * ((s + 1 : Nat) : Int)) = 3 + 32 * (s : Int) + ((32 : Nat) : Int) by omega]; exact hC'⟩
   ·obtain rfl : s = 18 := by omega
    have e579 : (3 + 32 * ((18 : Nat) : Int)) = 579 := by omega
    rw [e579] at hC
    simp -implicitDefEqProofs (disch := (first | omega | (simp only [lq11] <;> omega) | fail)) only [admQ, lq11, aFill, AK.cls, implies_true, if_true, if_false, seval, -List.reduceReplicate, rowOf_own hh]
    clear hX
    refine LoopW.on (fun b : Nat => [(3, .ptr xp 0), (4, .ptr lp 0), (11, .ptr bp 0), (12, .ptr np 0), (18, .int .i64 b)]) (fun b => 4 - b) (fun b M' => b ≤ 4 ∧ M' = M) ?_ 0 _ _ rfl ⟨by omega, rfl⟩
    rintro b M' X ⟨hb, rfl⟩ hX
    by_cases hlt : b < 4
    ·obtain ⟨wb, g1, g2, g3⟩ := hC.l.rd b hlt
     have glen := hC.l.len
     have hbg := tabI_get (bkN x.t 579) hlt
     have hbl := tabI_len 4 (bkN x.t 579)
     have hv := hJ.bkN_all h4 hlt
     have hwl := g2.len
     simp -implicitDefEqProofs (disch := (first | omega | (simp only [lq11] <;> omega) | fail)) only [admQ, lq11, aFill, AK.cls, implies_true, if_true, if_false, seval, -List.reduceReplicate, rowOf_own hC.b, rowOf_own hC.l.own, g1, glen, hbg, hbl, hwl, dec_t (show (b : Int) < 4 by omega)]
     have ev : (bkN x.t 579 b == if ((last b).length : Int) < 1 then ((last b).length : Int) else 1) = true := by
      rw [hv, beq_iff_eq]
      by_cases hz : last b = []
      ·rw [if_pos hz, hz]; rfl
      ·have := List.length_pos_iff.mpr hz
       rw [if_neg hz, if_neg (by omega)]
     simp -implicitDefEqProofs (disch := (first | omega | (simp only [lq11] <;> omega) | fail)) only [admQ, lq11, aFill, AK.cls, implies_true, if_true, if_false, seval, -List.reduceReplicate, ev, Bool.not_true]
     exact hX (b + 1) _ _ rfl (by omega) ⟨by omega, rfl⟩
    ·obtain rfl : b = 4 := by omega
     simp -implicitDefEqProofs (disch := (first | omega | (simp only [lq11] <;> omega) | fail)) only [admQ, lq11, aFill, AK.cls, implies_true, if_true, if_false, seval, -List.reduceReplicate]
     clear hX
     refine LoopW.on (fun i : Nat => [(3, .ptr xp 0), (12, .ptr np 0), (19, .int .i64 i)]) (fun i => 9 - i) (fun i M' => i ≤ 9 ∧ CM M' xp xd xc xu xw xt B V lp cb rb bp np x last ws (bkN x.t 579) (ndN x.t 579)) ?_ 0 _ _ rfl ⟨by omega, hC⟩
     rintro i M X ⟨hi, hC⟩ hX
     by_cases hlt : i < 9
     ·have hh9 := hhx hC
      obtain ⟨x', hp', hA'⟩ := hC.p
      simp -implicitDefEqProofs (disch := (first | omega | (simp only [lq11] <;> omega) | fail)) only [admQ, lq11, aFill, AK.cls, implies_true, if_true, if_false, seval, -List.reduceReplicate, rowOf_own hh9, dec_t (show (i : Int) < 9 by omega)]
      refine Ans.mono (ans_node hp'.tr i) ?_
      rintro _ M7 ⟨rfl, k7⟩
      have hnd : x'.t.node i = x.t.n i := by rw [hA'.t]; exact x.t.node_nat (by omega)
      have hRl := (x'.t.nodeR i).cells_len
      have hRs := (x'.t.nodeR i).sp
      have k8 := Kept.app [] M7 [Blk.row (x'.t.nodeR i).cells false]
      have r8 : own (M7 ++ [Blk.row (x'.t.nodeR i).cells false]) M7.length = some (x'.t.nodeR i).cells := by rw [own_app_at0]; rfl
      have hC8 := (hC.kept0 k7).kept0 k8
      simp -implicitDefEqProofs (disch := (first | omega | (simp only [lq11] <;> omega) | fail)) only [admQ, lq11, aFill, AK.cls, implies_true, if_true, if_false, seval, -List.reduceReplicate, hRl, hRs]
      generalize M7 ++ [Blk.row (x'.t.nodeR i).cells false] = M8 at *
      have hv := hJ.ndN_all hlt
      have hbg := tabI_get (ndN x.t 579) hlt
      have hbl := tabI_len 9 (ndN x.t 579)
      have hor : (x.t.n i).st = 1 → (x.t.n i).ref.at_ = 0 ∨ 0 < (x.t.n i).ref.at_ := fun h => by
       rcases hJ.tr.nd i hlt with g | g | ⟨-, g⟩ | ⟨-, pg, g, -⟩
       ·rw [g] at h; exact absurd h (by decide)
       ·rw [g] at h; exact absurd h (by decide)
       ·rw [g]; exact .inl rfl
       ·exact .inr (by have := g.1; omega)
      by_cases hs1 : (x.t.n i).st = 1
      ·have hB : x'.t.nodeB i = true := by rw [Tr.nodeB, hnd, hs1]; rfl
       have hR : x'.t.nodeR i = (x.t.n i).ref := by rw [Tr.nodeR, hnd, if_pos hs1]
       rw [hR] at r8 hRl
       rcases hor hs1 with h0 | h0
       ·rw [if_neg (by omega)] at hv
        rw [hv] at hbg
        simp -implicitDefEqProofs (disch := (first | omega | (simp only [lq11] <;> omega) | fail)) only [admQ, lq11, aFill, AK.cls, implies_true, if_true, if_false, seval, -List.reduceReplicate, rowOf_own hC8.n, hbg, hbl, hB, rowOf_own r8, Rf.c0, hRl, h0]
        exact hX (i + 1) _ _ rfl (by omega) ⟨by omega, hC8⟩
       ·rw [if_pos ⟨hs1, h0⟩] at hv
        rw [hv] at hbg
        have hne : ((x.t.n i).ref.at_ == 0) = false := by rw [beq_eq_false_iff_ne]; omega
        simp -implicitDefEqProofs (disch := (first | omega | (simp only [lq11] <;> omega) | fail)) only [admQ, lq11, aFill, AK.cls, implies_true, if_true, if_false, seval, -List.reduceReplicate, rowOf_own hC8.n, hbg, hbl, hB, rowOf_own r8, Rf.c0, hRl, hne]
        exact hX (i + 1) _ _ rfl (by omega) ⟨by omega, hC8⟩
      ·have hB : x'.t.nodeB i = false := by rw [Tr.nodeB, hnd]; simpa using hs1
       rw [if_neg (fun h => hs1 h.1)] at hv
       rw [hv] at hbg
       simp -implicitDefEqProofs (disch := (first | omega | (simp only [lq11] <;> omega) | fail)) only [admQ, lq11, aFill, AK.cls, implies_true, if_true, if_false, seval, -List.reduceReplicate, rowOf_own hC8.n, hbg, hbl, hB]
       exact hX (i + 1) _ _ rfl (by omega) ⟨by omega, hC8⟩
     ·obtain rfl : i = 9 := by omega
      simp -implicitDefEqProofs (disch := (first | omega | (simp only [lq11] <;> omega) | fail)) only [admQ, lq11, aFill, AK.cls, implies_true, if_true, if_false, seval, -List.reduceReplicate]
      refine (ans_lvknown _).mono ?_
      rintro _ M18 ⟨rfl, -⟩
      simp -implicitDefEqProofs (disch := (first | omega | (simp only [lq11] <;> omega) | fail)) only [admQ, lq11, aFill, AK.cls, implies_true, if_true, if_false, seval, -List.reduceReplicate]
end Go.Proofs.YtehnkcnjmfbjpaaGreat
end
section
namespace Go.Proofs.YtehnkcnjmfbjpaaGreat
open Go Go.Adm
set_option linter.unusedSimpArgs false
set_option linter.unusedVariables false
set_option maxRecDepth 100000
section
variable {x y : Pt} {A : Int} {b : List B8} {n : Nat} {last : Nat → List B8}
end
section
variable {m : Mem} {xp xd xc xu xw xt : Nat} {B V : List Nat} {x : Pt} (h : PtM m xp xd xc xu xw xt B V x)
include h
end
end Go.Proofs.YtehnkcnjmfbjpaaGreat
end
section
namespace Go.Proofs.YtehnkcnjmfbjpaaGreat
open Go Go.Adm
set_option linter.unusedSimpArgs false
set_option linter.unusedVariables false
set_option maxRecDepth 100000
set_option maxHeartbeats 4000000
end Go.Proofs.YtehnkcnjmfbjpaaGreat
end
