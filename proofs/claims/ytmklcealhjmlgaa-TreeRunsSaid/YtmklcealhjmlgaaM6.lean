/- Texts of this seat, joined (part 6 of 6): an abstract memory for Go programs, this seat's functions as abstract code, and what each of them does. -/
import Derived.Test.YtmklcealhjmlgaaM5
set_option linter.unusedSimpArgs false
section
/- Calls of the tree and of the document's lists, purely: they answer the same. -/
namespace Go.Proofs.Ytmklcealhjmlgaa
open Go Go.Adm
set_option linter.unusedSimpArgs false
theorem setB_n' (t : Tr) {nd : List N1} (h : NdR t nd) (k : Nat) (r : Rf) : NdR (t.setB k r) nd := h.same fun i => t.setB_n k i r
theorem set_sm {t : Tr} {bl : List MB} {nd : List N1} (h : Smr t bl nd) (k : Int) (r : Rf) : Smr (t.setT k r) (rSetB bl k r) (rSetN nd k r) ∧ rSetR bl nd k r = t.setR k r := by
  by_cases ho : Tr.setOk k r
  · have e : t.setT k r = t.putT k r := by rw [Tr.putT, if_pos (by have := ho.2; omega)]
    have hi := inv0_put h.inv k r
    rw [← e] at hi
    rw [rSetB, rSetN, rSetR, Tr.setR, if_pos ho, if_pos ho, if_pos ho, if_pos ho]
    have et : t.setT k r = (t.setB k.toNat r).spoilT [k.toNat / 8 + 1, 0] := by rw [Tr.setT, if_pos ho]
    obtain ⟨⟨h1, h2⟩, h3⟩ := ho
    obtain ⟨k, rfl⟩ := Int.eq_ofNat_of_zero_le h1
    rw [Int.toNat_natCast] at *
    have hk : k < 64 := by omega
    have sp := spoil2_sm (setB_n' t h.nd k r) hk
    refine ⟨⟨hi, ?_, ?_⟩, ?_⟩
    · rw [h.bl, rPut_can t hk (.inr h3), et]
      exact (canB_bl (spoil_bl _ _)).symm
    · rw [et]; exact sp.1
    · rw [sp.2, h.bl, can_get, t.at_nat hk, Tr.old]
      split <;> rfl
  · rw [rSetB, rSetN, rSetR, Tr.setR, Tr.setT, if_neg ho, if_neg ho, if_neg ho, if_neg ho, if_neg ho]
    exact ⟨h, rfl⟩
theorem del_sm {t : Tr} {bl : List MB} {nd : List N1} (h : Smr t bl nd) (k : Int) : Smr (t.delT k) (rDelB bl k) (rDelN bl nd k) ∧ rDelR bl nd k = t.delR k := by
  have e : t.delT k = t.putT k Rf.zero := by rw [Tr.putT, if_neg (by decide)]
  have hi := inv0_put h.inv k Rf.zero
  rw [← e] at hi
  by_cases hz : t.at k = Rf.zero
  · have hg : rGet bl k = none := by rw [h.bl, can_get, if_pos hz]
    rw [rDelB, rDelN, rDelR, Tr.delR, Tr.delT, if_pos hz, if_pos hz, hg]
    exact ⟨h, rfl⟩
  · have hg : rGet bl k = some (t.at k) := by rw [h.bl, can_get, if_neg hz]
    have hk : 0 ≤ k ∧ k < 64 := Classical.byContradiction fun h' => hz (t.at_out h')
    obtain ⟨k, rfl⟩ := Int.eq_ofNat_of_zero_le hk.1
    have hk6 : k < 64 := by omega
    have et : t.delT (k : Int) = if (t.delT1 k).some (k / 8 + 1) then t.delT1 k else (t.delT1 k).setN (k / 8 + 1) Nd.none := by
      rw [Tr.delT, if_neg hz, Int.toNat_natCast]
    have er : t.delR (k : Int) = t.at k :: (t.setB k Rf.zero).spoilR [k / 8 + 1, 0] := by rw [Tr.delR, if_neg hz, Int.toNat_natCast]
    have sp := spoil2_sm (setB_n' t h.nd k Rf.zero) hk6
    have hb1 : rPut bl (k : Int) Rf.zero = canB (t.delT1 k) := by
      rw [h.bl, rPut_can t hk6 (.inl rfl)]; exact (canB_bl (spoil_bl _ _)).symm
    rw [rDelB, rDelN, rDelR, hg, Option.isSome_some, if_pos rfl, if_pos rfl, Int.toNat_natCast, hb1, can_there _ (by omega) (by omega), er]
    refine ⟨⟨hi, ?_, ?_⟩, by simp only; rw [sp.2]⟩
    · rw [et]
      split
      · rfl
      · exact canB_bl rfl
    · rw [et]
      by_cases hs : (t.delT1 k).some (k / 8 + 1)
      · rw [if_pos hs, if_pos (decide_eq_true hs)]; exact sp.1
      · rw [if_neg hs, if_neg (by simpa using hs)]; exact sp.1.none (by omega)
theorem touch_sm {t : Tr} {bl : List MB} {nd : List N1} (h : Smr t bl nd) (k : Int) : Smr (t.touchT k) bl (rTouchN nd k) ∧ rTouchR nd k = t.touchR k := by
  by_cases ho : t.touchOk k
  · have hok : (rTouchOk nd k).isSome = true := by
      rw [rTouchOk, rNode_eq h.nd, if_pos ho.1, Option.filter_some, decide_eq_true ho.2]; rfl
    have hk9 := Tr.node_lt ho.1
    obtain ⟨k, rfl⟩ := Int.eq_ofNat_of_zero_le hk9.1
    have hk8 : k ≤ 8 := by omega
    rw [rTouchN, rTouchR, Tr.touchR, Tr.touchT, if_pos hok, if_pos hok, if_pos ho, if_pos ho]
    have hbl : ∀ l, (t.spoilT l).bl = t.bl := fun l => spoil_bl l t
    have hinv : ∀ l : List Nat, (∀ i, (t.spoilT l).n i = if i = 0 ∨ i = k then Nd.dirty else t.n i) → (t.spoilT l).Inv0 := fun l hn => by
      refine ⟨fun i hi => by have := h.inv.ok i hi; simp only [Tr.b, hbl] at *; exact this, fun i h1 h2 => ?_, .inl (by rw [hn, if_pos (.inl rfl)])⟩
      have hl := h.inv.leaf i h1 h2
      unfold Tr.LeafOk at *
      rw [hn, some_bl (hbl l)]
      by_cases e : i = k
      · subst e
        rw [if_pos (.inr rfl)]
        refine .inr (.inl ⟨rfl, ?_⟩)
        have hst := ho.1
        rw [t.node_nat hk8] at hst
        rcases hl with ⟨h3, _⟩ | ⟨h3, _⟩ | ⟨_, _, h3⟩
        · rw [h3] at hst; exact absurd hst (by decide)
        · rw [h3] at hst; exact absurd hst (by decide)
        · exact h3
      · rw [if_neg (by omega)]; exact hl
    by_cases h0 : k = 0
    · subst h0
      have hn : ∀ i, (t.spoilT [0]).n i = if i = 0 ∨ i = 0 then Nd.dirty else t.n i := fun i => by
        simp only [Tr.spoilT]
        rw [Tr.setN_n _ _ _ _ (by omega)]
        by_cases e : 0 = i
        · rw [if_pos e, if_pos (.inl e.symm)]
        · rw [if_neg e, if_neg (by omega)]
      have hl0 : Tr.touchL ((0 : Nat) : Int) = [0] := rfl
      rw [hl0, if_pos (show ((0 : Nat) : Int) = 0 from rfl), if_pos (show ((0 : Nat) : Int) = 0 from rfl)]
      refine ⟨⟨hinv [0] hn, by rw [h.bl]; exact (canB_bl (hbl _)).symm, h.nd.dirty (i := 0) (by omega)⟩, ?_⟩
      have e2 := rGone_eq h.nd 0
      rw [show (0 : Int) = ((0 : Nat) : Int) from rfl, Tr.node_nat _ (by omega)] at e2
      simp only [Tr.spoilR, List.append_nil]
      exact e2
    · have hl0 : Tr.touchL (k : Int) = [k, 0] := by rw [Tr.touchL, if_neg (by omega), Int.toNat_natCast]
      rw [hl0, if_neg (by omega), if_neg (by omega)]
      have h1 := h.nd.dirty (i := k) (by omega)
      have h2 := h1.dirty (i := 0) (by omega)
      refine ⟨⟨hinv [k, 0] (fun i => spoil2_n t (by omega) i), by rw [h.bl]; exact (canB_bl (hbl _)).symm, h2⟩, ?_⟩
      have e2 := rGone_eq h1 0
      rw [show (0 : Int) = ((0 : Nat) : Int) from rfl, Tr.node_nat _ (by omega)] at e2
      rw [show (0 : Int) = ((0 : Nat) : Int) from rfl, e2, rGone_eq h.nd, Tr.node_nat _ hk8]
      simp only [Tr.spoilR, List.append_nil]
      rfl
  · have hok : ¬ (rTouchOk nd k).isSome = true := by
      rw [rTouchOk, rNode_eq h.nd]
      by_cases e : (t.node k).st = 1
      · rw [if_pos e, Option.filter_some, decide_eq_false (fun h => ho ⟨e, h⟩)]; simp
      · rw [if_neg e]; simp
    rw [rTouchN, rTouchR, Tr.touchR, Tr.touchT, if_neg hok, if_neg hok, if_neg ho, if_neg ho]
    exact ⟨h, rfl⟩
theorem saved_sm {t : Tr} {bl : List MB} {nd : List N1} (h : Smr t bl nd) (k : Int) (r : Rf) : Smr (t.savedT k r) bl (rSavedN bl nd k r) ∧ rSavedE bl nd k r = t.savedE k r := by
  have hE : rSavedE bl nd k r = t.savedE k r := by
    rw [rSavedE, Tr.savedE, rDirtyL_eq h.nd]
    have e1 : (rDirty nd k = false ∨ k = 0 ∧ 1 < t.dirtyL.length) ↔ (¬ t.isDirty k ∨ k = 0 ∧ 1 < t.dirtyL.length) := by
      rw [← rDirty_iff h.nd, Bool.not_eq_true]
    have e2 : (k = 0 ∧ bl.length = 0) ↔ (k = 0 ∧ t.mapped = 0) := by rw [h.bl, can_len]
    simp only [e1, e2]
  refine ⟨?_, hE⟩
  rw [rSavedN, hE, Tr.savedT]
  by_cases he : t.savedE k r = 0
  · rw [if_pos he, if_pos he]
    have hd := savedE_dirty he
    obtain ⟨h1, h2, h3⟩ := id hd
    obtain ⟨k, rfl⟩ := Int.eq_ofNat_of_zero_le h1
    rw [Int.toNat_natCast] at h3 ⊢
    have hk9 : k < 9 := by omega
    refine ⟨⟨fun i hi => h.inv.ok i hi, fun i g1 g2 => ?_, ?_⟩, by rw [h.bl]; exact (canB_bl rfl).symm, h.nd.clean hk9 r⟩
    · have hl := h.inv.leaf i g1 g2
      unfold Tr.LeafOk at *
      rw [Tr.setN_n _ _ _ _ hk9, some_bl (setN_bl t k ⟨1, r⟩)]
      by_cases e : k = i
      · subst e
        rw [if_pos rfl]
        refine .inr (.inr ⟨rfl, ?_, ?_⟩)
        · rw [Tr.savedE, if_neg (by rintro (h' | h'); exact h' hd; omega), if_neg (by omega)] at he
          split at he
          · cases he
          · show 1 ≤ r.at_
            omega
        · rcases hl with ⟨h4, _⟩ | ⟨_, h4⟩ | ⟨h4, _⟩
          · rw [h4] at h3; exact absurd h3 (by decide)
          · exact h4
          · rw [h4] at h3; exact absurd h3 (by decide)
      · rw [if_neg e]; exact hl
    · rw [Tr.setN_n _ _ _ _ hk9]
      by_cases e : k = 0
      · rw [if_pos e]; exact .inr rfl
      · rw [if_neg e]; exact h.inv.root
  · rw [if_neg he, if_neg he]; exact h
/-- What a load puts into the blocks, one by one. -/
def ldT (t : Tr) (k : Nat) (f : Nat → Rf) : Nat → Tr
  | 0 => t
  | n + 1 => if 0 < (f n).at_ then (ldT t k f n).setB (8 * (k - 1) + n) (f n) else ldT t k f n
theorem ldT_can (t : Tr) {k : Nat} (hk : 1 ≤ k ∧ k ≤ 8) (f : Nat → Rf) : ∀ n, n ≤ 8 → rLoadB (canB t) k f n = canB (ldT t k f n) := by
  intro n
  induction n with
  | zero => intro _; rfl
  | succ n ih =>
    intro hn
    rw [rLoadB, ldT, ih (by omega)]
    split
    · rename_i h; exact rPut_can _ (by omega) (.inr (by omega))
    · rfl
theorem ldT_b (t : Tr) {k : Nat} (hk : 1 ≤ k ∧ k ≤ 8) (f : Nat → Rf) (hz : ¬ t.some k) : ∀ n, n ≤ 8 → ∀ i, (ldT t k f n).b i = if 8 * (k - 1) ≤ i ∧ i < 8 * (k - 1) + n then (f (i - 8 * (k - 1))).low else t.b i := by
  intro n
  induction n with
  | zero => intro _ i; rw [if_neg (by omega)]; rfl
  | succ n ih =>
    intro hn i
    have e := ih (by omega) i
    rw [ldT]
    by_cases h : 0 < (f n).at_
    · rw [if_pos h, Tr.setB_b _ _ _ _ (by omega), e]
      by_cases e1 : 8 * (k - 1) + n = i
      · rw [if_pos e1, if_pos (by omega), show i - 8 * (k - 1) = n by omega, Rf.low, if_neg (by omega)]
      · rw [if_neg e1]
        by_cases e2 : 8 * (k - 1) ≤ i ∧ i < 8 * (k - 1) + n
        · rw [if_pos e2, if_pos (by omega)]
        · rw [if_neg e2, if_neg (by omega)]
    · rw [if_neg h, e]
      by_cases e1 : 8 * (k - 1) + n = i
      · rw [if_neg (by omega), if_pos (by omega), show i - 8 * (k - 1) = n by omega, Rf.low, if_pos (by omega)]
        exact Classical.byContradiction fun h' => hz ⟨n, by omega, by rw [e1]; exact h'⟩
      · by_cases e2 : 8 * (k - 1) ≤ i ∧ i < 8 * (k - 1) + n
        · rw [if_pos e2, if_pos (by omega)]
        · rw [if_neg e2, if_neg (by omega)]
theorem bl_same' {s t : Tr} (h : ∀ i, s.b i = t.b i) : s.bl = t.bl := List.ext_getElem? fun i => by
  by_cases h' : i < 64
  · rw [s.b_get h', t.b_get h', h i]
  · rw [List.getElem?_eq_none (by rw [s.hb]; omega), List.getElem?_eq_none (by rw [t.hb]; omega)]
theorem place_node {t : Tr} {nd : List N1} (h : NdR t nd) (k : Int) : 0 ≤ place (fun b : N1 => b.k == k) nd ↔ (t.node k).st = 1 ∨ (t.node k).st = 2 := by
  rcases place_cases (fun b : N1 => b.k == k) nd with ⟨e, f⟩ | ⟨j, hj, e, f⟩
  · rw [h k, wantN] at f
    rw [e]
    constructor
    · intro h'; omega
    · rintro (g | g)
      · rw [if_pos g] at f; cases f
      · rw [if_neg (by omega), if_pos g] at f; cases f
  · rw [h k, wantN] at f
    rw [e]
    refine ⟨fun _ => ?_, fun _ => by omega⟩
    by_cases g : (t.node k).st = 1
    · exact .inl g
    · by_cases g2 : (t.node k).st = 2
      · exact .inr g2
      · rw [if_neg g, if_neg g2] at f; cases f
theorem load_sm {t : Tr} {bl : List MB} {nd : List N1} (h : Smr t bl nd) (k : Int) (f : Nat → Rf) (r : Rf) : Smr (t.loadT k f r) (rLoadS bl nd k f r) (rLoadN nd k f r) ∧ rLoadE nd k f r = t.loadE k f r := by
  have hE : rLoadE nd k f r = t.loadE k f r := by
    rw [rLoadE, Tr.loadE]
    by_cases hin : ¬ (0 ≤ k ∧ k ≤ 8) ∨ r.at_ < 1
    · rw [if_pos hin, if_pos hin]
    · rw [if_neg hin, if_neg hin]
      have hk8 : 0 ≤ k ∧ k ≤ 8 := Classical.byContradiction fun h => hin (.inl h)
      obtain ⟨k, rfl⟩ := Int.eq_ofNat_of_zero_le hk8.1
      rw [Int.toNat_natCast]
      by_cases h0 : k = 0
      · subst h0
        rw [if_pos (show ((0 : Nat) : Int) = 0 from rfl)]
        have e := rNode_eq h.nd ((0 : Nat) : Int)
        rw [t.node_nat (by omega)] at e
        rw [show (0 : Int) = ((0 : Nat) : Int) from rfl]
        rcases h.inv.root with hr | hr
        · have e' : rNode nd ((0 : Nat) : Int) = none := by rw [e, hr]; rfl
          rw [e', if_neg (by simp), hr, if_pos (by decide)]
        · rw [if_pos hr] at e
          rw [e]
          by_cases hz : (t.n 0).ref = Rf.zero
          · have en : t.n 0 = ⟨1, Rf.zero⟩ := by rw [← hz, ← hr]
            rw [if_pos (by rw [hz]), if_neg (fun h => h (.inr en)), if_neg (by omega)]
          · rw [if_neg (by simpa using hz), if_pos]
            rintro (h1 | h1)
            · rw [h1] at hr; exact absurd hr (by decide)
            · rw [h1] at hz; exact hz rfl
      · rw [if_neg (by omega)]
        have hl := h.inv.leaf k (by omega) (by omega)
        have hp := place_node h.nd (k : Int)
        rw [t.node_nat (by omega)] at hp
        rcases hl with ⟨h1, _⟩ | ⟨h1, _⟩ | ⟨h1, h2, _⟩
        · rw [if_neg (by rw [hp, h1]; decide), if_neg (c := ¬ (t.n k = Nd.none ∨ t.n k = ⟨1, Rf.zero⟩)) (fun h => h (.inl h1))]
          by_cases hs : pgSome f
          · rw [if_pos hs, if_neg (fun h => h.2 hs)]
          · rw [if_neg hs, if_pos ⟨by omega, hs⟩]
        · rw [if_pos (by rw [hp, h1]; decide), if_pos (by rw [h1]; decide)]
        · rw [if_pos (hp.mpr (.inl h1)), if_pos]
          rintro (h3 | h3)
          · rw [h3] at h1; exact absurd h1 (by decide)
          · rw [h3] at h2; exact absurd h2 (by decide)
  refine ⟨?_, hE⟩
  rw [rLoadN, rLoadS, hE, Tr.loadT]
  by_cases he : t.loadE k f r = 0
  · rw [if_pos he, if_pos he]
    have hin : ¬ (¬ (0 ≤ k ∧ k ≤ 8) ∨ r.at_ < 1) := fun h => by rw [Tr.loadE, if_pos h] at he; cases he
    have hk8 : 0 ≤ k ∧ k ≤ 8 := Classical.byContradiction fun h => hin (.inl h)
    have ha : 1 ≤ r.at_ := Int.not_lt.mp fun h => hin (.inr h)
    obtain ⟨k, rfl⟩ := Int.eq_ofNat_of_zero_le hk8.1
    rw [Int.toNat_natCast]
    by_cases h0 : k = 0
    · subst h0
      rw [if_neg (fun h => h.2 rfl), Tr.loadS, if_pos (show ((0 : Nat) : Int) = 0 from rfl)]
      refine ⟨⟨fun i hi => h.inv.ok i hi, fun i g1 g2 => ?_, .inr (by rw [Tr.setN_n _ _ _ _ (by omega), if_pos rfl])⟩, by rw [h.bl]; exact (canB_bl rfl).symm, h.nd.clean (by omega) r⟩
      have hl := h.inv.leaf i g1 g2
      unfold Tr.LeafOk at *
      rw [Tr.setN_n _ _ _ _ (by omega), some_bl (setN_bl t 0 ⟨1, r⟩), if_neg (by omega)]
      exact hl
    · have hk1 : 1 ≤ k ∧ k ≤ 8 := by omega
      rw [if_pos ⟨he, by omega⟩, Tr.loadS, if_neg (by omega), Int.toNat_natCast]
      rw [Tr.loadE, if_neg hin, Int.toNat_natCast] at he
      have hnn : t.n k = Nd.none ∨ t.n k = ⟨1, Rf.zero⟩ := Classical.byContradiction fun h => by rw [if_pos h] at he; cases he
      rw [if_neg (fun h => h hnn)] at he
      have hs : pgSome f := Classical.byContradiction fun h => by rw [if_pos ⟨by omega, h⟩] at he; cases he
      have hz : ¬ t.some k := by
        rcases h.inv.leaf k hk1.1 hk1.2 with ⟨_, h2⟩ | ⟨h1, _⟩ | ⟨h1, h2, _⟩
        · exact h2
        · rw [h1] at hnn; exact absurd hnn (by decide)
        · rcases hnn with h3 | h3
          · rw [h3] at h1; exact absurd h1 (by decide)
          · rw [h3] at h2; exact absurd h2 (by decide)
      have hsb : ∀ i, (t.setSpan (k - 1) fun i => (f i).low).b i = (ldT t k f 8).b i := fun i => by
        rw [Tr.setSpan_b _ (by omega), ldT_b t hk1 f hz 8 (by omega)]
      have hlow : ∀ i, (f i).low = Rf.zero ∨ 1 ≤ (f i).low.at_ := fun i => by
        unfold Rf.low; split
        · exact .inl rfl
        · exact .inr (by omega)
      refine ⟨⟨fun i hi => ?_, fun i g1 g2 => ?_, ?_⟩, ?_, ?_⟩
      · rw [Tr.setN_b, Tr.setSpan_b _ (by omega)]
        split
        · exact hlow _
        · exact h.inv.ok i hi
      · have hl := h.inv.leaf i g1 g2
        unfold Tr.LeafOk at *
        rw [Tr.setN_n _ _ _ _ (by omega), Tr.setSpan_n, some_bl (setN_bl _ k ⟨1, r⟩)]
        by_cases e : k = i
        · subst e
          rw [if_pos rfl]
          refine .inr (.inr ⟨rfl, ha, ?_⟩)
          obtain ⟨j, hj, hp⟩ := hs
          refine ⟨j, hj, ?_⟩
          rw [Tr.setSpan_b _ (by omega), if_pos (by omega), show 8 * (k - 1) + j - 8 * (k - 1) = j by omega, Rf.low, if_neg (by omega)]
          exact Rf.pos_ne hp
        · rw [if_neg e]
          have hsm : (t.setSpan (k - 1) fun i => (f i).low).some i ↔ t.some i := by
            have : ∀ j, j < 8 → (t.setSpan (k - 1) fun i => (f i).low).b (8 * (i - 1) + j) = t.b (8 * (i - 1) + j) := fun j hj => by
              rw [Tr.setSpan_b _ (by omega), if_neg (by omega)]
            constructor
            · rintro ⟨j, hj, h⟩; exact ⟨j, hj, by rwa [this j hj] at h⟩
            · rintro ⟨j, hj, h⟩; exact ⟨j, hj, by rwa [this j hj]⟩
          rw [hsm]; exact hl
      · rw [Tr.setN_n _ _ _ _ (by omega), if_neg (by omega), Tr.setSpan_n]; exact h.inv.root
      · rw [h.bl, ldT_can t hk1 f 8 (by omega)]
        exact canB_bl (bl_same' fun i => by rw [Tr.setN_b]; exact (hsb i).symm)
      · exact (h.nd.same fun i => Tr.setSpan_n _ _ _ _).clean (by omega) r
  · rw [if_neg he, if_neg he, if_neg (fun h => he h.1)]; exact h
theorem new_sm : Smr Tr.new [] [⟨0, false, Rf.zero⟩] := by
  refine ⟨new_inv0, ?_, fun k => ?_⟩
  · have : (canB Tr.new).length = 0 := by rw [can_len]; decide +kernel
    exact (List.length_eq_zero_iff.mp this).symm
  · rw [wantN]
    by_cases h : 0 ≤ k ∧ k ≤ 8
    · obtain ⟨k, rfl⟩ := Int.eq_ofNat_of_zero_le h.1
      rw [Tr.node_nat _ (by omega)]
      by_cases h0 : k = 0
      · subst h0; rfl
      · rw [new_n (by omega) (by omega), if_neg (by decide), if_neg (by decide)]
        simp; omega
    · rw [Tr.node_out _ h, if_neg (by decide), if_neg (by decide)]
      simp; omega
end Go.Proofs.Ytmklcealhjmlgaa
end
section
/- The statement TreeRuns, walked. -/
namespace Go.Proofs.Ytmklcealhjmlgaa
open Go Go.Adm
set_option linter.unusedSimpArgs false
set_option maxRecDepth 100000
set_option maxHeartbeats 1000000
theorem ans_alike {m : Mem} {A p : Nat} {t : Tr} {bl : List MB} {nd : List N1} (pA : own m A = some t.row) (hT : RT m p [] bl nd) (hS : Smr t bl nd) (hl : nd.length < 700) :
    Ans Try.prog 27 [.ptr A 0, .ptr p 0] m fun x m' => x = .bool true ∧ Kept [] m m' := by
  refine ans_ret mixed ok27 ?_
  have hb : bl.length ≤ 64 := by rw [hS.bl, can_len]; exact mapped_le t
  have hrl := refs_len t
  have hdl := t.dirtyIn_len dOrd
  rw [show dOrd.length = 9 from rfl, show t.dirtyIn dOrd = t.dirtyL from rfl] at hdl
  simp -implicitDefEqProofs (disch := (first | omega | (simp only [lenB, MB.cells_len, N1.cells_len, Rf.cells_len, flat8_len, flatU_len, Tr.row_len, TOp.cells_len] <;> omega) | fail)) only [admQ, lenB, MB.cells_len, N1.cells_len, Rf.cells_len, flat8_len, flatU_len, Tr.row_len, TOp.cells_len, aFill, AK.cls, implies_true, ↓reduceIte, reduceCtorEq, if_true, if_false, Nat.reduceAdd, Nat.reduceEqDiff, Nat.reduceMod, Nat.reduceLT, Nat.reduceLeDiff, Nat.reduceSub, Nat.reduceMul, Nat.reduceBEq, Int.reduceAdd, Int.reduceSub, Int.reduceMul, Int.reduceNeg, Int.reduceLT, Int.reduceLE, Int.reduceToNat, Int.reduceEq, Int.reduceBEq, c27, r27]
  refine (ans_refs pA).mono ?_
  rintro l m1 ⟨hl1, k1⟩
  simp -implicitDefEqProofs (disch := (first | omega | (simp only [lenB, MB.cells_len, N1.cells_len, Rf.cells_len, flat8_len, flatU_len, Tr.row_len, TOp.cells_len] <;> omega) | fail)) only [admQ, lenB, MB.cells_len, N1.cells_len, Rf.cells_len, flat8_len, flatU_len, Tr.row_len, TOp.cells_len, aFill, AK.cls, implies_true, ↓reduceIte, reduceCtorEq, if_true, if_false, Nat.reduceAdd, Nat.reduceEqDiff, Nat.reduceMod, Nat.reduceLT, Nat.reduceLeDiff, Nat.reduceSub, Nat.reduceMul, Nat.reduceBEq, Int.reduceAdd, Int.reduceSub, Int.reduceMul, Int.reduceNeg, Int.reduceLT, Int.reduceLE, Int.reduceToNat, Int.reduceEq, Int.reduceBEq]
  refine (ans_dirty (k1.own0 pA)).mono ?_
  rintro d m2 ⟨hd2, k2⟩
  have k02 := k1.trans k2
  simp -implicitDefEqProofs (disch := (first | omega | (simp only [lenB, MB.cells_len, N1.cells_len, Rf.cells_len, flat8_len, flatU_len, Tr.row_len, TOp.cells_len] <;> omega) | fail)) only [admQ, lenB, MB.cells_len, N1.cells_len, Rf.cells_len, flat8_len, flatU_len, Tr.row_len, TOp.cells_len, aFill, AK.cls, implies_true, ↓reduceIte, reduceCtorEq, if_true, if_false, Nat.reduceAdd, Nat.reduceEqDiff, Nat.reduceMod, Nat.reduceLT, Nat.reduceLeDiff, Nat.reduceSub, Nat.reduceMul, Nat.reduceBEq, Int.reduceAdd, Int.reduceSub, Int.reduceMul, Int.reduceNeg, Int.reduceLT, Int.reduceLE, Int.reduceToNat, Int.reduceEq, Int.reduceBEq]
  refine (ans_rrefs (hT.kept0 k02) (by omega) (by omega)).mono ?_
  rintro z3 m3 ⟨hz3, k3⟩
  rw [hS.bl, rRefs_eq hS.nd] at hz3
  have k03 := k02.trans k3
  simp -implicitDefEqProofs (disch := (first | omega | (simp only [lenB, MB.cells_len, N1.cells_len, Rf.cells_len, flat8_len, flatU_len, Tr.row_len, TOp.cells_len] <;> omega) | fail)) only [admQ, lenB, MB.cells_len, N1.cells_len, Rf.cells_len, flat8_len, flatU_len, Tr.row_len, TOp.cells_len, aFill, AK.cls, implies_true, ↓reduceIte, reduceCtorEq, if_true, if_false, Nat.reduceAdd, Nat.reduceEqDiff, Nat.reduceMod, Nat.reduceLT, Nat.reduceLeDiff, Nat.reduceSub, Nat.reduceMul, Nat.reduceBEq, Int.reduceAdd, Int.reduceSub, Int.reduceMul, Int.reduceNeg, Int.reduceLT, Int.reduceLE, Int.reduceToNat, Int.reduceEq, Int.reduceBEq]
  refine (ans_samerefs (hl1.kept0 (k2.trans k3)) hz3 (by omega)).mono ?_
  rintro _ _ ⟨rfl, rfl⟩
  rename_i m3
  simp -implicitDefEqProofs (disch := (first | omega | (simp only [lenB, MB.cells_len, N1.cells_len, Rf.cells_len, flat8_len, flatU_len, Tr.row_len, TOp.cells_len] <;> omega) | fail)) only [admQ, lenB, MB.cells_len, N1.cells_len, Rf.cells_len, flat8_len, flatU_len, Tr.row_len, TOp.cells_len, aFill, AK.cls, implies_true, ↓reduceIte, reduceCtorEq, if_true, if_false, Nat.reduceAdd, Nat.reduceEqDiff, Nat.reduceMod, Nat.reduceLT, Nat.reduceLeDiff, Nat.reduceSub, Nat.reduceMul, Nat.reduceBEq, Int.reduceAdd, Int.reduceSub, Int.reduceMul, Int.reduceNeg, Int.reduceLT, Int.reduceLE, Int.reduceToNat, Int.reduceEq, Int.reduceBEq, dec_t]
  refine (ans_rdirtyl (hT.kept0 k03) (by omega)).mono ?_
  rintro z4 m4 ⟨hz4, k4⟩
  rw [rDirtyL_eq hS.nd] at hz4
  have k04 := k03.trans k4
  simp -implicitDefEqProofs (disch := (first | omega | (simp only [lenB, MB.cells_len, N1.cells_len, Rf.cells_len, flat8_len, flatU_len, Tr.row_len, TOp.cells_len] <;> omega) | fail)) only [admQ, lenB, MB.cells_len, N1.cells_len, Rf.cells_len, flat8_len, flatU_len, Tr.row_len, TOp.cells_len, aFill, AK.cls, implies_true, ↓reduceIte, reduceCtorEq, if_true, if_false, Nat.reduceAdd, Nat.reduceEqDiff, Nat.reduceMod, Nat.reduceLT, Nat.reduceLeDiff, Nat.reduceSub, Nat.reduceMul, Nat.reduceBEq, Int.reduceAdd, Int.reduceSub, Int.reduceMul, Int.reduceNeg, Int.reduceLT, Int.reduceLE, Int.reduceToNat, Int.reduceEq, Int.reduceBEq]
  refine (ans_sameints (hd2.kept0 (k3.trans k4)) hz4 (by omega)).mono ?_
  rintro _ _ ⟨rfl, rfl⟩
  rename_i m4
  simp -implicitDefEqProofs (disch := (first | omega | (simp only [lenB, MB.cells_len, N1.cells_len, Rf.cells_len, flat8_len, flatU_len, Tr.row_len, TOp.cells_len] <;> omega) | fail)) only [admQ, lenB, MB.cells_len, N1.cells_len, Rf.cells_len, flat8_len, flatU_len, Tr.row_len, TOp.cells_len, aFill, AK.cls, implies_true, ↓reduceIte, reduceCtorEq, if_true, if_false, Nat.reduceAdd, Nat.reduceEqDiff, Nat.reduceMod, Nat.reduceLT, Nat.reduceLeDiff, Nat.reduceSub, Nat.reduceMul, Nat.reduceBEq, Int.reduceAdd, Int.reduceSub, Int.reduceMul, Int.reduceNeg, Int.reduceLT, Int.reduceLE, Int.reduceToNat, Int.reduceEq, Int.reduceBEq, dec_t]
  refine (ans_mapped (k04.own0 pA)).mono ?_
  rintro _ m5 ⟨rfl, k5⟩
  have k05 := k04.trans k5
  simp -implicitDefEqProofs (disch := (first | omega | (simp only [lenB, MB.cells_len, N1.cells_len, Rf.cells_len, flat8_len, flatU_len, Tr.row_len, TOp.cells_len] <;> omega) | fail)) only [admQ, lenB, MB.cells_len, N1.cells_len, Rf.cells_len, flat8_len, flatU_len, Tr.row_len, TOp.cells_len, aFill, AK.cls, implies_true, ↓reduceIte, reduceCtorEq, if_true, if_false, Nat.reduceAdd, Nat.reduceEqDiff, Nat.reduceMod, Nat.reduceLT, Nat.reduceLeDiff, Nat.reduceSub, Nat.reduceMul, Nat.reduceBEq, Int.reduceAdd, Int.reduceSub, Int.reduceMul, Int.reduceNeg, Int.reduceLT, Int.reduceLE, Int.reduceToNat, Int.reduceEq, Int.reduceBEq]
  refine (ans_rmapped (hT.kept0 k05)).mono ?_
  rintro _ _ ⟨rfl, rfl⟩
  rename_i m5
  have hmb : (((t.mapped : Nat) : Int) == ((bl.length : Nat) : Int)) = true := by rw [hS.bl, can_len]; exact beq_self_eq_true _
  simp -implicitDefEqProofs (disch := (first | omega | (simp only [lenB, MB.cells_len, N1.cells_len, Rf.cells_len, flat8_len, flatU_len, Tr.row_len, TOp.cells_len] <;> omega) | fail)) only [admQ, lenB, MB.cells_len, N1.cells_len, Rf.cells_len, flat8_len, flatU_len, Tr.row_len, TOp.cells_len, aFill, AK.cls, implies_true, ↓reduceIte, reduceCtorEq, if_true, if_false, Nat.reduceAdd, Nat.reduceEqDiff, Nat.reduceMod, Nat.reduceLT, Nat.reduceLeDiff, Nat.reduceSub, Nat.reduceMul, Nat.reduceBEq, Int.reduceAdd, Int.reduceSub, Int.reduceMul, Int.reduceNeg, Int.reduceLT, Int.reduceLE, Int.reduceToNat, Int.reduceEq, Int.reduceBEq, hmb]
  have hl5 := hl1.kept0 ((k2.trans k3).trans (k4.trans k5))
  have hd5 := hd2.kept0 (k3.trans (k4.trans k5))
  have hm1 := k1.len
  refine (ans_spoilrefs hl5 (by omega)).mono ?_
  rintro _ m6 k6
  have k06 : Kept [] m m6 := k05.upon k6 (fun b hb => hl5.blk b hb)
  have hne : ∀ b ∈ blkOf d, b ∉ blkOf l := fun b h1 h2 => by have := hd2.blk b h1; have := hl1.lt b h2; omega
  have hd6 := hd5.kept k6 hne
  simp -implicitDefEqProofs (disch := (first | omega | (simp only [lenB, MB.cells_len, N1.cells_len, Rf.cells_len, flat8_len, flatU_len, Tr.row_len, TOp.cells_len] <;> omega) | fail)) only [admQ, lenB, MB.cells_len, N1.cells_len, Rf.cells_len, flat8_len, flatU_len, Tr.row_len, TOp.cells_len, aFill, AK.cls, implies_true, ↓reduceIte, reduceCtorEq, if_true, if_false, Nat.reduceAdd, Nat.reduceEqDiff, Nat.reduceMod, Nat.reduceLT, Nat.reduceLeDiff, Nat.reduceSub, Nat.reduceMul, Nat.reduceBEq, Int.reduceAdd, Int.reduceSub, Int.reduceMul, Int.reduceNeg, Int.reduceLT, Int.reduceLE, Int.reduceToNat, Int.reduceEq, Int.reduceBEq]
  refine (ans_spoilints hd6 (by omega)).mono ?_
  rintro _ m7 k7
  have k07 : Kept [] m m7 := k06.upon k7 (fun b hb => by have := hd6.blk b hb; omega)
  simp -implicitDefEqProofs (disch := (first | omega | (simp only [lenB, MB.cells_len, N1.cells_len, Rf.cells_len, flat8_len, flatU_len, Tr.row_len, TOp.cells_len] <;> omega) | fail)) only [admQ, lenB, MB.cells_len, N1.cells_len, Rf.cells_len, flat8_len, flatU_len, Tr.row_len, TOp.cells_len, aFill, AK.cls, implies_true, ↓reduceIte, reduceCtorEq, if_true, if_false, Nat.reduceAdd, Nat.reduceEqDiff, Nat.reduceMod, Nat.reduceLT, Nat.reduceLeDiff, Nat.reduceSub, Nat.reduceMul, Nat.reduceBEq, Int.reduceAdd, Int.reduceSub, Int.reduceMul, Int.reduceNeg, Int.reduceLT, Int.reduceLE, Int.reduceToNat, Int.reduceEq, Int.reduceBEq]
  clear hl1 hd2 hz3 hz4 k1 k2 k3 k4 k5 k6 k7 k02 k03 k04 k05 k06 hl5 hd5 hd6 hne hm1
  refine LoopW.on (fun i : Int => [(0, .ptr A 0), (1, .ptr p 0), (7, .int .i64 i)]) (fun i => (10 - i).toNat)
    (fun i m' => (-1 ≤ i ∧ i ≤ 10) ∧ Kept [] m m') ?_ (-1) _ _ rfl ⟨by omega, k07⟩
  clear k07
  rintro i m1 X ⟨hi, k1⟩ hX
  by_cases hlt : i ≤ 9
  · simp -implicitDefEqProofs (disch := (first | omega | (simp only [lenB, MB.cells_len, N1.cells_len, Rf.cells_len, flat8_len, flatU_len, Tr.row_len, TOp.cells_len] <;> omega) | fail)) only [admQ, lenB, MB.cells_len, N1.cells_len, Rf.cells_len, flat8_len, flatU_len, Tr.row_len, TOp.cells_len, aFill, AK.cls, implies_true, ↓reduceIte, reduceCtorEq, if_true, if_false, Nat.reduceAdd, Nat.reduceEqDiff, Nat.reduceMod, Nat.reduceLT, Nat.reduceLeDiff, Nat.reduceSub, Nat.reduceMul, Nat.reduceBEq, Int.reduceAdd, Int.reduceSub, Int.reduceMul, Int.reduceNeg, Int.reduceLT, Int.reduceLE, Int.reduceToNat, Int.reduceEq, Int.reduceBEq, dec_t, dec_f]
    refine (ans_node (k1.own0 pA) i).mono ?_
    rintro _ m2 ⟨rfl, k2⟩
    have k02 := k1.trans k2
    simp -implicitDefEqProofs (disch := (first | omega | (simp only [lenB, MB.cells_len, N1.cells_len, Rf.cells_len, flat8_len, flatU_len, Tr.row_len, TOp.cells_len] <;> omega) | fail)) only [admQ, lenB, MB.cells_len, N1.cells_len, Rf.cells_len, flat8_len, flatU_len, Tr.row_len, TOp.cells_len, aFill, AK.cls, implies_true, ↓reduceIte, reduceCtorEq, if_true, if_false, Nat.reduceAdd, Nat.reduceEqDiff, Nat.reduceMod, Nat.reduceLT, Nat.reduceLeDiff, Nat.reduceSub, Nat.reduceMul, Nat.reduceBEq, Int.reduceAdd, Int.reduceSub, Int.reduceMul, Int.reduceNeg, Int.reduceLT, Int.reduceLE, Int.reduceToNat, Int.reduceEq, Int.reduceBEq, rf_zero, splice_rf]
    have hq3 : own (m2 ++ [.row (t.nodeR i).cells false]) m2.length = some (t.nodeR i).cells := by rw [own_app_at0, own_c0]
    have k03 := k02.trans (.app [] m2 [.row (t.nodeR i).cells false])
    generalize m2 ++ [Blk.row (t.nodeR i).cells false] = m3 at *
    generalize m2.length = R at *
    refine (ans_rnode (hT.kept0 k03) (by omega) i).mono ?_
    rintro _ m4 ⟨rfl, k4⟩
    rw [rNode_d hS.nd, rNode_s hS.nd]
    have k04 := k03.trans k4
    have hq4 := k4.own0 hq3
    simp -implicitDefEqProofs (disch := (first | omega | (simp only [lenB, MB.cells_len, N1.cells_len, Rf.cells_len, flat8_len, flatU_len, Tr.row_len, TOp.cells_len] <;> omega) | fail)) only [admQ, lenB, MB.cells_len, N1.cells_len, Rf.cells_len, flat8_len, flatU_len, Tr.row_len, TOp.cells_len, aFill, AK.cls, implies_true, ↓reduceIte, reduceCtorEq, if_true, if_false, Nat.reduceAdd, Nat.reduceEqDiff, Nat.reduceMod, Nat.reduceLT, Nat.reduceLeDiff, Nat.reduceSub, Nat.reduceMul, Nat.reduceBEq, Int.reduceAdd, Int.reduceSub, Int.reduceMul, Int.reduceNeg, Int.reduceLT, Int.reduceLE, Int.reduceToNat, Int.reduceEq, Int.reduceBEq, rf_zero, splice_rf]
    have hq5 := own_app hq4 [.row (t.nodeR i).cells false]
    have hr5 : own (m4 ++ [.row (t.nodeR i).cells false]) m4.length = some (t.nodeR i).cells := by rw [own_app_at0, own_c0]
    have k05 := k04.trans (.app [] m4 [.row (t.nodeR i).cells false])
    generalize m4 ++ [Blk.row (t.nodeR i).cells false] = m5 at *
    have er := aEq_rf' (t.nodeR i) (t.nodeR i)
    have hb1 : (t.nodeR i == t.nodeR i) = true := beq_self_eq_true _
    have hb2 : (t.nodeB i == t.nodeB i) = true := beq_self_eq_true _
    simp -implicitDefEqProofs (disch := (first | omega | (simp only [lenB, MB.cells_len, N1.cells_len, Rf.cells_len, flat8_len, flatU_len, Tr.row_len, TOp.cells_len] <;> omega) | fail)) only [admQ, lenB, MB.cells_len, N1.cells_len, Rf.cells_len, flat8_len, flatU_len, Tr.row_len, TOp.cells_len, aFill, AK.cls, implies_true, ↓reduceIte, reduceCtorEq, if_true, if_false, Nat.reduceAdd, Nat.reduceEqDiff, Nat.reduceMod, Nat.reduceLT, Nat.reduceLeDiff, Nat.reduceSub, Nat.reduceMul, Nat.reduceBEq, Int.reduceAdd, Int.reduceSub, Int.reduceMul, Int.reduceNeg, Int.reduceLT, Int.reduceLE, Int.reduceToNat, Int.reduceEq, Int.reduceBEq, rowOf_own hq5, rowOf_own hr5, take_rf, er, hb1, hb2]
    refine (ans_page (k05.own0 pA) i).mono ?_
    rintro _ m6 ⟨rfl, k6⟩
    have k06 := k05.trans k6
    simp -implicitDefEqProofs (disch := (first | omega | (simp only [lenB, MB.cells_len, N1.cells_len, Rf.cells_len, flat8_len, flatU_len, Tr.row_len, TOp.cells_len] <;> omega) | fail)) only [admQ, lenB, MB.cells_len, N1.cells_len, Rf.cells_len, flat8_len, flatU_len, Tr.row_len, TOp.cells_len, aFill, AK.cls, implies_true, ↓reduceIte, reduceCtorEq, if_true, if_false, Nat.reduceAdd, Nat.reduceEqDiff, Nat.reduceMod, Nat.reduceLT, Nat.reduceLeDiff, Nat.reduceSub, Nat.reduceMul, Nat.reduceBEq, Int.reduceAdd, Int.reduceSub, Int.reduceMul, Int.reduceNeg, Int.reduceLT, Int.reduceLE, Int.reduceToNat, Int.reduceEq, Int.reduceBEq]
    refine (ans_rpage (hT.kept0 k06) (by omega) (by omega) i).mono ?_
    rintro _ m7 ⟨rfl, k7⟩
    have ep := aEq_pg (t.pageF i)
    have hpg : tab 8 (rPageF bl nd i) = tab 8 (t.pageF i) := tab_ext fun j hj => by rw [hS.bl]; exact rPage_eq hS.nd i hj
    rw [show t.page i = tab 8 (t.pageF i) from rfl, hpg]
    simp -implicitDefEqProofs (disch := (first | omega | (simp only [lenB, MB.cells_len, N1.cells_len, Rf.cells_len, flat8_len, flatU_len, Tr.row_len, TOp.cells_len] <;> omega) | fail)) only [admQ, lenB, MB.cells_len, N1.cells_len, Rf.cells_len, flat8_len, flatU_len, Tr.row_len, TOp.cells_len, aFill, AK.cls, implies_true, ↓reduceIte, reduceCtorEq, if_true, if_false, Nat.reduceAdd, Nat.reduceEqDiff, Nat.reduceMod, Nat.reduceLT, Nat.reduceLeDiff, Nat.reduceSub, Nat.reduceMul, Nat.reduceBEq, Int.reduceAdd, Int.reduceSub, Int.reduceMul, Int.reduceNeg, Int.reduceLT, Int.reduceLE, Int.reduceToNat, Int.reduceEq, Int.reduceBEq, ep]
    exact hX (i + 1) _ _ rfl (by omega) ⟨by omega, k06.trans k7⟩
  · obtain rfl : i = 10 := by omega
    clear hX
    simp -implicitDefEqProofs (disch := (first | omega | (simp only [lenB, MB.cells_len, N1.cells_len, Rf.cells_len, flat8_len, flatU_len, Tr.row_len, TOp.cells_len] <;> omega) | fail)) only [admQ, lenB, MB.cells_len, N1.cells_len, Rf.cells_len, flat8_len, flatU_len, Tr.row_len, TOp.cells_len, aFill, AK.cls, implies_true, ↓reduceIte, reduceCtorEq, if_true, if_false, Nat.reduceAdd, Nat.reduceEqDiff, Nat.reduceMod, Nat.reduceLT, Nat.reduceLeDiff, Nat.reduceSub, Nat.reduceMul, Nat.reduceBEq, Int.reduceAdd, Int.reduceSub, Int.reduceMul, Int.reduceNeg, Int.reduceLT, Int.reduceLE, Int.reduceToNat, Int.reduceEq, Int.reduceBEq, dec_t, dec_f]
    refine LoopW.on (fun i : Int => [(0, .ptr A 0), (1, .ptr p 0), (12, .int .i64 i)]) (fun i => (65 - i).toNat)
      (fun i m' => (-1 ≤ i ∧ i ≤ 65) ∧ Kept [] m m') ?_ (-1) _ _ rfl ⟨by omega, k1⟩
    clear k1 hi hlt
    rintro i m1 X ⟨hi, k1⟩ hX
    by_cases hlt : i ≤ 64
    · simp -implicitDefEqProofs (disch := (first | omega | (simp only [lenB, MB.cells_len, N1.cells_len, Rf.cells_len, flat8_len, flatU_len, Tr.row_len, TOp.cells_len] <;> omega) | fail)) only [admQ, lenB, MB.cells_len, N1.cells_len, Rf.cells_len, flat8_len, flatU_len, Tr.row_len, TOp.cells_len, aFill, AK.cls, implies_true, ↓reduceIte, reduceCtorEq, if_true, if_false, Nat.reduceAdd, Nat.reduceEqDiff, Nat.reduceMod, Nat.reduceLT, Nat.reduceLeDiff, Nat.reduceSub, Nat.reduceMul, Nat.reduceBEq, Int.reduceAdd, Int.reduceSub, Int.reduceMul, Int.reduceNeg, Int.reduceLT, Int.reduceLE, Int.reduceToNat, Int.reduceEq, Int.reduceBEq, dec_t, dec_f]
      refine (ans_get (k1.own0 pA) i).mono ?_
      rintro _ m2 ⟨rfl, k2⟩
      have k02 := k1.trans k2
      simp -implicitDefEqProofs (disch := (first | omega | (simp only [lenB, MB.cells_len, N1.cells_len, Rf.cells_len, flat8_len, flatU_len, Tr.row_len, TOp.cells_len] <;> omega) | fail)) only [admQ, lenB, MB.cells_len, N1.cells_len, Rf.cells_len, flat8_len, flatU_len, Tr.row_len, TOp.cells_len, aFill, AK.cls, implies_true, ↓reduceIte, reduceCtorEq, if_true, if_false, Nat.reduceAdd, Nat.reduceEqDiff, Nat.reduceMod, Nat.reduceLT, Nat.reduceLeDiff, Nat.reduceSub, Nat.reduceMul, Nat.reduceBEq, Int.reduceAdd, Int.reduceSub, Int.reduceMul, Int.reduceNeg, Int.reduceLT, Int.reduceLE, Int.reduceToNat, Int.reduceEq, Int.reduceBEq, rf_zero, splice_rf]
      have hq3 : own (m2 ++ [.row (t.at i).cells false]) m2.length = some (t.at i).cells := by rw [own_app_at0, own_c0]
      have k03 := k02.trans (.app [] m2 [.row (t.at i).cells false])
      generalize m2 ++ [Blk.row (t.at i).cells false] = m3 at *
      generalize m2.length = R at *
      refine (ans_rget (hT.kept0 k03) (by omega) i).mono ?_
      rintro _ m4 ⟨rfl, k4⟩
      rw [hS.bl, can_get_d, can_get_s]
      have k04 := k03.trans k4
      have hq4 := k4.own0 hq3
      simp -implicitDefEqProofs (disch := (first | omega | (simp only [lenB, MB.cells_len, N1.cells_len, Rf.cells_len, flat8_len, flatU_len, Tr.row_len, TOp.cells_len] <;> omega) | fail)) only [admQ, lenB, MB.cells_len, N1.cells_len, Rf.cells_len, flat8_len, flatU_len, Tr.row_len, TOp.cells_len, aFill, AK.cls, implies_true, ↓reduceIte, reduceCtorEq, if_true, if_false, Nat.reduceAdd, Nat.reduceEqDiff, Nat.reduceMod, Nat.reduceLT, Nat.reduceLeDiff, Nat.reduceSub, Nat.reduceMul, Nat.reduceBEq, Int.reduceAdd, Int.reduceSub, Int.reduceMul, Int.reduceNeg, Int.reduceLT, Int.reduceLE, Int.reduceToNat, Int.reduceEq, Int.reduceBEq, rf_zero, splice_rf]
      have hq5 := own_app hq4 [.row (t.at i).cells false]
      have hr5 : own (m4 ++ [.row (t.at i).cells false]) m4.length = some (t.at i).cells := by rw [own_app_at0, own_c0]
      have k05 := k04.trans (.app [] m4 [.row (t.at i).cells false])
      generalize m4 ++ [Blk.row (t.at i).cells false] = m5 at *
      have er := aEq_rf' (t.at i) (t.at i)
      have hb1 : (t.at i == t.at i) = true := beq_self_eq_true _
      have hb2 : ((!(t.at i == Rf.zero)) == (!(t.at i == Rf.zero))) = true := beq_self_eq_true _
      simp -implicitDefEqProofs (disch := (first | omega | (simp only [lenB, MB.cells_len, N1.cells_len, Rf.cells_len, flat8_len, flatU_len, Tr.row_len, TOp.cells_len] <;> omega) | fail)) only [admQ, lenB, MB.cells_len, N1.cells_len, Rf.cells_len, flat8_len, flatU_len, Tr.row_len, TOp.cells_len, aFill, AK.cls, implies_true, ↓reduceIte, reduceCtorEq, if_true, if_false, Nat.reduceAdd, Nat.reduceEqDiff, Nat.reduceMod, Nat.reduceLT, Nat.reduceLeDiff, Nat.reduceSub, Nat.reduceMul, Nat.reduceBEq, Int.reduceAdd, Int.reduceSub, Int.reduceMul, Int.reduceNeg, Int.reduceLT, Int.reduceLE, Int.reduceToNat, Int.reduceEq, Int.reduceBEq, rowOf_own hq5, rowOf_own hr5, take_rf, er, hb1, hb2]
      exact hX (i + 1) _ _ rfl (by omega) ⟨by omega, k05⟩
    · obtain rfl : i = 65 := by omega
      clear hX
      simp -implicitDefEqProofs (disch := (first | omega | (simp only [lenB, MB.cells_len, N1.cells_len, Rf.cells_len, flat8_len, flatU_len, Tr.row_len, TOp.cells_len] <;> omega) | fail)) only [admQ, lenB, MB.cells_len, N1.cells_len, Rf.cells_len, flat8_len, flatU_len, Tr.row_len, TOp.cells_len, aFill, AK.cls, implies_true, ↓reduceIte, reduceCtorEq, if_true, if_false, Nat.reduceAdd, Nat.reduceEqDiff, Nat.reduceMod, Nat.reduceLT, Nat.reduceLeDiff, Nat.reduceSub, Nat.reduceMul, Nat.reduceBEq, Int.reduceAdd, Int.reduceSub, Int.reduceMul, Int.reduceNeg, Int.reduceLT, Int.reduceLE, Int.reduceToNat, Int.reduceEq, Int.reduceBEq, dec_t, dec_f]
      refine (ans_refs (k1.own0 pA)).mono ?_
      rintro l m2 ⟨hl2, k2⟩
      have k02 := k1.trans k2
      simp -implicitDefEqProofs (disch := (first | omega | (simp only [lenB, MB.cells_len, N1.cells_len, Rf.cells_len, flat8_len, flatU_len, Tr.row_len, TOp.cells_len] <;> omega) | fail)) only [admQ, lenB, MB.cells_len, N1.cells_len, Rf.cells_len, flat8_len, flatU_len, Tr.row_len, TOp.cells_len, aFill, AK.cls, implies_true, ↓reduceIte, reduceCtorEq, if_true, if_false, Nat.reduceAdd, Nat.reduceEqDiff, Nat.reduceMod, Nat.reduceLT, Nat.reduceLeDiff, Nat.reduceSub, Nat.reduceMul, Nat.reduceBEq, Int.reduceAdd, Int.reduceSub, Int.reduceMul, Int.reduceNeg, Int.reduceLT, Int.reduceLE, Int.reduceToNat, Int.reduceEq, Int.reduceBEq]
      refine (ans_rrefs (hT.kept0 k02) (by omega) (by omega)).mono ?_
      rintro z3 m3 ⟨hz3, k3⟩
      rw [hS.bl, rRefs_eq hS.nd] at hz3
      simp -implicitDefEqProofs (disch := (first | omega | (simp only [lenB, MB.cells_len, N1.cells_len, Rf.cells_len, flat8_len, flatU_len, Tr.row_len, TOp.cells_len] <;> omega) | fail)) only [admQ, lenB, MB.cells_len, N1.cells_len, Rf.cells_len, flat8_len, flatU_len, Tr.row_len, TOp.cells_len, aFill, AK.cls, implies_true, ↓reduceIte, reduceCtorEq, if_true, if_false, Nat.reduceAdd, Nat.reduceEqDiff, Nat.reduceMod, Nat.reduceLT, Nat.reduceLeDiff, Nat.reduceSub, Nat.reduceMul, Nat.reduceBEq, Int.reduceAdd, Int.reduceSub, Int.reduceMul, Int.reduceNeg, Int.reduceLT, Int.reduceLE, Int.reduceToNat, Int.reduceEq, Int.reduceBEq]
      refine (ans_samerefs (hl2.kept0 k3) hz3 (by omega)).mono ?_
      rintro _ _ ⟨rfl, rfl⟩
      simp -implicitDefEqProofs (disch := (first | omega | (simp only [lenB, MB.cells_len, N1.cells_len, Rf.cells_len, flat8_len, flatU_len, Tr.row_len, TOp.cells_len] <;> omega) | fail)) only [admQ, lenB, MB.cells_len, N1.cells_len, Rf.cells_len, flat8_len, flatU_len, Tr.row_len, TOp.cells_len, aFill, AK.cls, implies_true, ↓reduceIte, reduceCtorEq, if_true, if_false, Nat.reduceAdd, Nat.reduceEqDiff, Nat.reduceMod, Nat.reduceLT, Nat.reduceLeDiff, Nat.reduceSub, Nat.reduceMul, Nat.reduceBEq, Int.reduceAdd, Int.reduceSub, Int.reduceMul, Int.reduceNeg, Int.reduceLT, Int.reduceLE, Int.reduceToNat, Int.reduceEq, Int.reduceBEq, dec_t]
      exact k02.trans k3
end Go.Proofs.Ytmklcealhjmlgaa
end
section
/- The statement TreeRuns, walked: a call with both, and the whole. -/
namespace Go.Proofs.Ytmklcealhjmlgaa
open Go Go.Adm
set_option linter.unusedSimpArgs false
set_option maxRecDepth 100000
set_option maxHeartbeats 1000000
def TOp.bothT (o : TOp) (t : Tr) : Tr := if o.kind = 4 then t.loadT o.n o.p o.r else o.runT t
theorem op_page (o : TOp) : (o.cells.drop 35).take 264 = flatOf Rf.cells (tab 8 o.p) := op_p o
theorem ans_both {m : Mem} {A p : Nat} {t : Tr} {bl : List MB} {nd : List N1} (pA : own m A = some t.row) (hT : RT m p [] bl nd) (hS : Smr t bl nd) (hl : nd.length < 600) (hAp : A + 1 < p) (o : TOp) :
    Ans Try.prog 28 [.ptr A 0, .ptr p 0, .agg o.cells] m fun x m' => x = .bool true ∧ own m' A = some (o.bothT t).row ∧ Kept [A, p] m m' ∧ ∃ bl' nd', RT m' p [] bl' nd' ∧ Smr (o.bothT t) bl' nd' ∧ nd'.length ≤ nd.length + 2 := by
  refine ans_ret mixed ok28 ?_
  have hb : bl.length ≤ 64 := by rw [hS.bl, can_len]; exact mapped_le t
  have hpl := hT.lt
  have hq : own (m ++ [.row o.cells false]) m.length = some o.cells := by rw [own_app_at0, own_c0]
  have pA1 := own_app pA [.row o.cells false]
  have hT1 := hT.kept0 (.app [] m [.row o.cells false])
  have k1 : Kept [A, p] m (m ++ [.row o.cells false]) := .app _ _ _
  have hl1 : (m ++ [Blk.row o.cells false]).length = m.length + 1 := by simp
  simp -implicitDefEqProofs (disch := (first | omega | (simp only [lenB, MB.cells_len, N1.cells_len, Rf.cells_len, flat8_len, flatU_len, Tr.row_len, TOp.cells_len] <;> omega) | fail)) only [admQ, lenB, MB.cells_len, N1.cells_len, Rf.cells_len, flat8_len, flatU_len, Tr.row_len, TOp.cells_len, aFill, AK.cls, implies_true, ↓reduceIte, reduceCtorEq, if_true, if_false, Nat.reduceAdd, Nat.reduceEqDiff, Nat.reduceMod, Nat.reduceLT, Nat.reduceLeDiff, Nat.reduceSub, Nat.reduceMul, Nat.reduceBEq, Int.reduceAdd, Int.reduceSub, Int.reduceMul, Int.reduceNeg, Int.reduceLT, Int.reduceLE, Int.reduceToNat, Int.reduceEq, Int.reduceBEq, s28, r28]
  generalize m ++ [Blk.row o.cells false] = M at *
  clear pA hT
  have r1 := rowOf_own hq
  have n2 : ∀ k : Int, (rIs nd ⟨k, true, Rf.zero⟩).length ≤ nd.length + 1 := fun k => rIs_len _ _
  by_cases k3 : o.kind = 3
  · have hB : o.bothT t = t.savedT o.n o.r := by simp [TOp.bothT, TOp.runT, k3]
    rw [hB]
    obtain ⟨s1, s2⟩ := saved_sm hS o.n o.r
    have hnl : (rSavedN bl nd o.n o.r).length ≤ nd.length + 2 := by
      unfold rSavedN; split
      · have := rIs_len nd ⟨o.n, false, o.r⟩; omega
      · omega
    simp -implicitDefEqProofs (disch := (first | omega | (simp only [lenB, MB.cells_len, N1.cells_len, Rf.cells_len, flat8_len, flatU_len, Tr.row_len, TOp.cells_len] <;> omega) | fail)) only [admQ, lenB, MB.cells_len, N1.cells_len, Rf.cells_len, flat8_len, flatU_len, Tr.row_len, TOp.cells_len, aFill, AK.cls, implies_true, ↓reduceIte, reduceCtorEq, if_true, if_false, Nat.reduceAdd, Nat.reduceEqDiff, Nat.reduceMod, Nat.reduceLT, Nat.reduceLeDiff, Nat.reduceSub, Nat.reduceMul, Nat.reduceBEq, Int.reduceAdd, Int.reduceSub, Int.reduceMul, Int.reduceNeg, Int.reduceLT, Int.reduceLE, Int.reduceToNat, Int.reduceEq, Int.reduceBEq, e28_1, r1, op_kind, op_n, op_r, k3, dec_t, dec_f]
    refine (ans_saved pA1 o.n o.r).mono ?_
    rintro _ M2 ⟨rfl, kk2, pA2⟩
    have r2 := rowOf_own (kk2.own hq (by simp; omega))
    have hT2 := hT1.low kk2 (fun q hq => by simp at hq; omega)
    simp -implicitDefEqProofs (disch := (first | omega | (simp only [lenB, MB.cells_len, N1.cells_len, Rf.cells_len, flat8_len, flatU_len, Tr.row_len, TOp.cells_len] <;> omega) | fail)) only [admQ, lenB, MB.cells_len, N1.cells_len, Rf.cells_len, flat8_len, flatU_len, Tr.row_len, TOp.cells_len, aFill, AK.cls, implies_true, ↓reduceIte, reduceCtorEq, if_true, if_false, Nat.reduceAdd, Nat.reduceEqDiff, Nat.reduceMod, Nat.reduceLT, Nat.reduceLeDiff, Nat.reduceSub, Nat.reduceMul, Nat.reduceBEq, Int.reduceAdd, Int.reduceSub, Int.reduceMul, Int.reduceNeg, Int.reduceLT, Int.reduceLE, Int.reduceToNat, Int.reduceEq, Int.reduceBEq, r1, r2, op_kind, op_n, op_r]
    refine (ans_rsaved hT2 (by omega) o.n o.r).mono ?_
    rintro _ M3 ⟨rfl, kk3, hT3⟩
    have pA3 := kk3.own pA2 (by simp; omega)
    have r3 := rowOf_own (kk3.own (kk2.own hq (by simp; omega)) (by simp; omega))
    rw [s2]
    simp -implicitDefEqProofs (disch := (first | omega | (simp only [lenB, MB.cells_len, N1.cells_len, Rf.cells_len, flat8_len, flatU_len, Tr.row_len, TOp.cells_len] <;> omega) | fail)) only [admQ, lenB, MB.cells_len, N1.cells_len, Rf.cells_len, flat8_len, flatU_len, Tr.row_len, TOp.cells_len, aFill, AK.cls, implies_true, ↓reduceIte, reduceCtorEq, if_true, if_false, Nat.reduceAdd, Nat.reduceEqDiff, Nat.reduceMod, Nat.reduceLT, Nat.reduceLeDiff, Nat.reduceSub, Nat.reduceMul, Nat.reduceBEq, Int.reduceAdd, Int.reduceSub, Int.reduceMul, Int.reduceNeg, Int.reduceLT, Int.reduceLE, Int.reduceToNat, Int.reduceEq, Int.reduceBEq, r1, r2, r3, op_kind, op_n, op_r, beq_self_eq_true]
    exact ⟨pA3, (k1.trans (kk2.more (fun q hq _ => by simp at hq ⊢; exact .inl hq))).trans (kk3.more (fun q hq _ => by simp at hq ⊢; exact .inr hq)), _, _, hT3, s1, hnl⟩
  by_cases k4 : o.kind = 4
  · have hB : o.bothT t = t.loadT o.n o.p o.r := by simp [TOp.bothT, k4]
    rw [hB]
    obtain ⟨s1, s2⟩ := load_sm hS o.n o.p o.r
    have hnl : (rLoadN nd o.n o.p o.r).length ≤ nd.length + 2 := by
      unfold rLoadN; split
      · have := rIs_len nd ⟨o.n, false, o.r⟩; omega
      · omega
    simp -implicitDefEqProofs (disch := (first | omega | (simp only [lenB, MB.cells_len, N1.cells_len, Rf.cells_len, flat8_len, flatU_len, Tr.row_len, TOp.cells_len] <;> omega) | fail)) only [admQ, lenB, MB.cells_len, N1.cells_len, Rf.cells_len, flat8_len, flatU_len, Tr.row_len, TOp.cells_len, aFill, AK.cls, implies_true, ↓reduceIte, reduceCtorEq, if_true, if_false, Nat.reduceAdd, Nat.reduceEqDiff, Nat.reduceMod, Nat.reduceLT, Nat.reduceLeDiff, Nat.reduceSub, Nat.reduceMul, Nat.reduceBEq, Int.reduceAdd, Int.reduceSub, Int.reduceMul, Int.reduceNeg, Int.reduceLT, Int.reduceLE, Int.reduceToNat, Int.reduceEq, Int.reduceBEq, e28_1, r1, op_kind, op_n, op_r, op_page, k4, dec_t, dec_f]
    refine (ans_load pA1 o.n o.p o.r).mono ?_
    rintro _ M2 ⟨rfl, kk2, pA2⟩
    have r2 := rowOf_own (kk2.own hq (by simp; omega))
    have hT2 := hT1.low kk2 (fun q hq => by simp at hq; omega)
    simp -implicitDefEqProofs (disch := (first | omega | (simp only [lenB, MB.cells_len, N1.cells_len, Rf.cells_len, flat8_len, flatU_len, Tr.row_len, TOp.cells_len] <;> omega) | fail)) only [admQ, lenB, MB.cells_len, N1.cells_len, Rf.cells_len, flat8_len, flatU_len, Tr.row_len, TOp.cells_len, aFill, AK.cls, implies_true, ↓reduceIte, reduceCtorEq, if_true, if_false, Nat.reduceAdd, Nat.reduceEqDiff, Nat.reduceMod, Nat.reduceLT, Nat.reduceLeDiff, Nat.reduceSub, Nat.reduceMul, Nat.reduceBEq, Int.reduceAdd, Int.reduceSub, Int.reduceMul, Int.reduceNeg, Int.reduceLT, Int.reduceLE, Int.reduceToNat, Int.reduceEq, Int.reduceBEq, r1, r2, op_kind, op_n, op_r, op_page]
    refine (ans_rload hT2 (by omega) (by omega) o.n o.p o.r).mono ?_
    rintro _ M3 ⟨rfl, kk3, hT3⟩
    have pA3 := kk3.own pA2 (by simp; omega)
    have r3 := rowOf_own (kk3.own (kk2.own hq (by simp; omega)) (by simp; omega))
    rw [s2]
    simp -implicitDefEqProofs (disch := (first | omega | (simp only [lenB, MB.cells_len, N1.cells_len, Rf.cells_len, flat8_len, flatU_len, Tr.row_len, TOp.cells_len] <;> omega) | fail)) only [admQ, lenB, MB.cells_len, N1.cells_len, Rf.cells_len, flat8_len, flatU_len, Tr.row_len, TOp.cells_len, aFill, AK.cls, implies_true, ↓reduceIte, reduceCtorEq, if_true, if_false, Nat.reduceAdd, Nat.reduceEqDiff, Nat.reduceMod, Nat.reduceLT, Nat.reduceLeDiff, Nat.reduceSub, Nat.reduceMul, Nat.reduceBEq, Int.reduceAdd, Int.reduceSub, Int.reduceMul, Int.reduceNeg, Int.reduceLT, Int.reduceLE, Int.reduceToNat, Int.reduceEq, Int.reduceBEq, r1, r2, r3, op_kind, op_n, op_r, op_page, beq_self_eq_true]
    exact ⟨pA3, (k1.trans (kk2.more (fun q hq _ => by simp at hq ⊢; exact .inl hq))).trans (kk3.more (fun q hq _ => by simp at hq ⊢; exact .inr hq)), _, _, hT3, s1, hnl⟩
  · have hB : o.bothT t = o.runT t := by rw [TOp.bothT, if_neg k4]
    rw [hB]
    refine wp_join2 [7, 8] (fun s : AV × AV => [(7, s.1), (8, s.2)])
      (fun s M2 => ∃ R bl' nd', R.length < 1000 ∧ RfL m.length M2 s.1 R ∧ RfL m.length M2 s.2 R ∧ own M2 A = some (o.runT t).row ∧ RT M2 p (blkOf s.1) bl' nd' ∧ Smr (o.runT t) bl' nd' ∧ nd'.length ≤ nd.length + 2 ∧ Kept [A, p] m M2) rfl ?_ ?_
    · by_cases k0 : o.kind = 0
      · have hR : o.runT t = t.setT o.n o.r := by simp [TOp.runT, k0]
        rw [hR]
        obtain ⟨s1, s2⟩ := set_sm hS o.n o.r
        have hnl : (rSetN nd o.n o.r).length ≤ nd.length + 2 := by
          unfold rSetN; split
          · unfold rSpN; have := rIs_len nd ⟨((o.n.toNat / 8 + 1 : Nat) : Int), true, Rf.zero⟩; have := rIs_len (rIs nd ⟨((o.n.toNat / 8 + 1 : Nat) : Int), true, Rf.zero⟩) ⟨0, true, Rf.zero⟩; omega
          · omega
        simp -implicitDefEqProofs (disch := (first | omega | (simp only [lenB, MB.cells_len, N1.cells_len, Rf.cells_len, flat8_len, flatU_len, Tr.row_len, TOp.cells_len] <;> omega) | fail)) only [admQ, lenB, MB.cells_len, N1.cells_len, Rf.cells_len, flat8_len, flatU_len, Tr.row_len, TOp.cells_len, aFill, AK.cls, implies_true, ↓reduceIte, reduceCtorEq, if_true, if_false, Nat.reduceAdd, Nat.reduceEqDiff, Nat.reduceMod, Nat.reduceLT, Nat.reduceLeDiff, Nat.reduceSub, Nat.reduceMul, Nat.reduceBEq, Int.reduceAdd, Int.reduceSub, Int.reduceMul, Int.reduceNeg, Int.reduceLT, Int.reduceLE, Int.reduceToNat, Int.reduceEq, Int.reduceBEq, e28_1, joins, r1, op_kind, op_n, op_r, k0, dec_t, dec_f]
        refine (ans_set pA1 o.n o.r).mono ?_
        rintro y M2 ⟨hy, kk2, pA2⟩
        have hq2 := kk2.own hq (by simp; omega)
        have r2 := rowOf_own hq2
        have hT2 := (hT1.fresh (D' := blkOf y) (fun b hb => .inr (hy.blk b hb))).kept kk2 (fun q hq => by simp at hq; omega) (fun h => by have := hy.blk _ h; omega)
        have hlk := kk2.len
        simp -implicitDefEqProofs (disch := (first | omega | (simp only [lenB, MB.cells_len, N1.cells_len, Rf.cells_len, flat8_len, flatU_len, Tr.row_len, TOp.cells_len] <;> omega) | fail)) only [admQ, lenB, MB.cells_len, N1.cells_len, Rf.cells_len, flat8_len, flatU_len, Tr.row_len, TOp.cells_len, aFill, AK.cls, implies_true, ↓reduceIte, reduceCtorEq, if_true, if_false, Nat.reduceAdd, Nat.reduceEqDiff, Nat.reduceMod, Nat.reduceLT, Nat.reduceLeDiff, Nat.reduceSub, Nat.reduceMul, Nat.reduceBEq, Int.reduceAdd, Int.reduceSub, Int.reduceMul, Int.reduceNeg, Int.reduceLT, Int.reduceLE, Int.reduceToNat, Int.reduceEq, Int.reduceBEq, r1, r2, op_kind, op_n, op_r]
        refine (ans_rset hT2 (fun b hb => hy.lt b hb) (fun h => by have := hy.blk _ h; omega) (by omega) (by omega) o.n o.r).mono ?_
        rintro z M3 ⟨hz, kk3, hT3⟩
        rw [s2] at hz
        have pA3 := kk3.own pA2 (by simp; omega)
        have hy3 := hy.kept kk3 (fun b hb => by have := hy.blk b hb; simp; omega)
        have hRl : (t.setR o.n o.r).length < 1000 := by
          unfold Tr.setR; split
          · have := t.old_len o.n.toNat; have := (t.setB o.n.toNat o.r).spoilR_len [o.n.toNat / 8 + 1, 0]; simp at *; omega
          · simp
        simp -implicitDefEqProofs (disch := (first | omega | (simp only [lenB, MB.cells_len, N1.cells_len, Rf.cells_len, flat8_len, flatU_len, Tr.row_len, TOp.cells_len] <;> omega) | fail)) only [admQ, lenB, MB.cells_len, N1.cells_len, Rf.cells_len, flat8_len, flatU_len, Tr.row_len, TOp.cells_len, aFill, AK.cls, implies_true, ↓reduceIte, reduceCtorEq, if_true, if_false, Nat.reduceAdd, Nat.reduceEqDiff, Nat.reduceMod, Nat.reduceLT, Nat.reduceLeDiff, Nat.reduceSub, Nat.reduceMul, Nat.reduceBEq, Int.reduceAdd, Int.reduceSub, Int.reduceMul, Int.reduceNeg, Int.reduceLT, Int.reduceLE, Int.reduceToNat, Int.reduceEq, Int.reduceBEq, joins]
        exact ⟨(y, z), rfl, _, _, _, hRl, hy3.low (by omega), hz.low (by omega), pA3, hT3, s1, hnl, (k1.trans (kk2.more (fun q hq _ => by simp at hq ⊢; exact .inl hq))).trans (kk3.more (fun q hq _ => by simp at hq ⊢; exact .inr hq))⟩
      · by_cases k1' : o.kind = 1
        · have hR : o.runT t = t.delT o.n := by simp [TOp.runT, k1']
          rw [hR]
          obtain ⟨s1, s2⟩ := del_sm hS o.n
          have hnl : (rDelN bl nd o.n).length ≤ nd.length + 2 := by
            have h2 : (rSpN nd o.n.toNat).length ≤ nd.length + 2 := by
              unfold rSpN; have := rIs_len nd ⟨((o.n.toNat / 8 + 1 : Nat) : Int), true, Rf.zero⟩; have := rIs_len (rIs nd ⟨((o.n.toNat / 8 + 1 : Nat) : Int), true, Rf.zero⟩) ⟨0, true, Rf.zero⟩; omega
            unfold rDelN; split
            · split
              · exact h2
              · exact Nat.le_trans (List.length_filter_le _ _) h2
            · omega
          simp -implicitDefEqProofs (disch := (first | omega | (simp only [lenB, MB.cells_len, N1.cells_len, Rf.cells_len, flat8_len, flatU_len, Tr.row_len, TOp.cells_len] <;> omega) | fail)) only [admQ, lenB, MB.cells_len, N1.cells_len, Rf.cells_len, flat8_len, flatU_len, Tr.row_len, TOp.cells_len, aFill, AK.cls, implies_true, ↓reduceIte, reduceCtorEq, if_true, if_false, Nat.reduceAdd, Nat.reduceEqDiff, Nat.reduceMod, Nat.reduceLT, Nat.reduceLeDiff, Nat.reduceSub, Nat.reduceMul, Nat.reduceBEq, Int.reduceAdd, Int.reduceSub, Int.reduceMul, Int.reduceNeg, Int.reduceLT, Int.reduceLE, Int.reduceToNat, Int.reduceEq, Int.reduceBEq, e28_1, joins, r1, op_kind, op_n, op_r, k1', dec_t, dec_f]
          refine (ans_del pA1 o.n).mono ?_
          rintro y M2 ⟨hy, kk2, pA2⟩
          have hq2 := kk2.own hq (by simp; omega)
          have r2 := rowOf_own hq2
          have hT2 := (hT1.fresh (D' := blkOf y) (fun b hb => .inr (hy.blk b hb))).kept kk2 (fun q hq => by simp at hq; omega) (fun h => by have := hy.blk _ h; omega)
          have hlk := kk2.len
          simp -implicitDefEqProofs (disch := (first | omega | (simp only [lenB, MB.cells_len, N1.cells_len, Rf.cells_len, flat8_len, flatU_len, Tr.row_len, TOp.cells_len] <;> omega) | fail)) only [admQ, lenB, MB.cells_len, N1.cells_len, Rf.cells_len, flat8_len, flatU_len, Tr.row_len, TOp.cells_len, aFill, AK.cls, implies_true, ↓reduceIte, reduceCtorEq, if_true, if_false, Nat.reduceAdd, Nat.reduceEqDiff, Nat.reduceMod, Nat.reduceLT, Nat.reduceLeDiff, Nat.reduceSub, Nat.reduceMul, Nat.reduceBEq, Int.reduceAdd, Int.reduceSub, Int.reduceMul, Int.reduceNeg, Int.reduceLT, Int.reduceLE, Int.reduceToNat, Int.reduceEq, Int.reduceBEq, r1, r2, op_kind, op_n, op_r]
          refine (ans_rdel hT2 (fun b hb => hy.lt b hb) (fun h => by have := hy.blk _ h; omega) (by omega) (by omega) (by rw [hS.bl]; exact canB_ok t) o.n).mono ?_
          rintro z M3 ⟨hz, kk3, hT3⟩
          rw [s2] at hz
          have pA3 := kk3.own pA2 (by simp; omega)
          have hy3 := hy.kept kk3 (fun b hb => by have := hy.blk b hb; simp; omega)
          have hRl : (t.delR o.n).length < 1000 := by
            unfold Tr.delR; split
            · simp
            · have := (t.setB o.n.toNat Rf.zero).spoilR_len [o.n.toNat / 8 + 1, 0]; simp at *; omega
          simp -implicitDefEqProofs (disch := (first | omega | (simp only [lenB, MB.cells_len, N1.cells_len, Rf.cells_len, flat8_len, flatU_len, Tr.row_len, TOp.cells_len] <;> omega) | fail)) only [admQ, lenB, MB.cells_len, N1.cells_len, Rf.cells_len, flat8_len, flatU_len, Tr.row_len, TOp.cells_len, aFill, AK.cls, implies_true, ↓reduceIte, reduceCtorEq, if_true, if_false, Nat.reduceAdd, Nat.reduceEqDiff, Nat.reduceMod, Nat.reduceLT, Nat.reduceLeDiff, Nat.reduceSub, Nat.reduceMul, Nat.reduceBEq, Int.reduceAdd, Int.reduceSub, Int.reduceMul, Int.reduceNeg, Int.reduceLT, Int.reduceLE, Int.reduceToNat, Int.reduceEq, Int.reduceBEq, joins]
          exact ⟨(y, z), rfl, _, _, _, hRl, hy3.low (by omega), hz.low (by omega), pA3, hT3, s1, hnl, (k1.trans (kk2.more (fun q hq _ => by simp at hq ⊢; exact .inl hq))).trans (kk3.more (fun q hq _ => by simp at hq ⊢; exact .inr hq))⟩
        · by_cases k2' : o.kind = 2
          · have hR : o.runT t = t.touchT o.n := by simp [TOp.runT, k2']
            rw [hR]
            obtain ⟨s1, s2⟩ := touch_sm hS o.n
            have hnl : (rTouchN nd o.n).length ≤ nd.length + 2 := by
              unfold rTouchN; split
              · split
                · have := rIs_len nd ⟨0, true, Rf.zero⟩; omega
                · have := rIs_len nd ⟨o.n, true, Rf.zero⟩; have := rIs_len (rIs nd ⟨o.n, true, Rf.zero⟩) ⟨0, true, Rf.zero⟩; omega
              · omega
            simp -implicitDefEqProofs (disch := (first | omega | (simp only [lenB, MB.cells_len, N1.cells_len, Rf.cells_len, flat8_len, flatU_len, Tr.row_len, TOp.cells_len] <;> omega) | fail)) only [admQ, lenB, MB.cells_len, N1.cells_len, Rf.cells_len, flat8_len, flatU_len, Tr.row_len, TOp.cells_len, aFill, AK.cls, implies_true, ↓reduceIte, reduceCtorEq, if_true, if_false, Nat.reduceAdd, Nat.reduceEqDiff, Nat.reduceMod, Nat.reduceLT, Nat.reduceLeDiff, Nat.reduceSub, Nat.reduceMul, Nat.reduceBEq, Int.reduceAdd, Int.reduceSub, Int.reduceMul, Int.reduceNeg, Int.reduceLT, Int.reduceLE, Int.reduceToNat, Int.reduceEq, Int.reduceBEq, e28_1, joins, r1, op_kind, op_n, op_r, k2', dec_t, dec_f]
            refine (ans_touch pA1 o.n).mono ?_
            rintro y M2 ⟨hy, kk2, pA2⟩
            have hq2 := kk2.own hq (by simp; omega)
            have r2 := rowOf_own hq2
            have hT2 := (hT1.fresh (D' := blkOf y) (fun b hb => .inr (hy.blk b hb))).kept kk2 (fun q hq => by simp at hq; omega) (fun h => by have := hy.blk _ h; omega)
            have hlk := kk2.len
            simp -implicitDefEqProofs (disch := (first | omega | (simp only [lenB, MB.cells_len, N1.cells_len, Rf.cells_len, flat8_len, flatU_len, Tr.row_len, TOp.cells_len] <;> omega) | fail)) only [admQ, lenB, MB.cells_len, N1.cells_len, Rf.cells_len, flat8_len, flatU_len, Tr.row_len, TOp.cells_len, aFill, AK.cls, implies_true, ↓reduceIte, reduceCtorEq, if_true, if_false, Nat.reduceAdd, Nat.reduceEqDiff, Nat.reduceMod, Nat.reduceLT, Nat.reduceLeDiff, Nat.reduceSub, Nat.reduceMul, Nat.reduceBEq, Int.reduceAdd, Int.reduceSub, Int.reduceMul, Int.reduceNeg, Int.reduceLT, Int.reduceLE, Int.reduceToNat, Int.reduceEq, Int.reduceBEq, r1, r2, op_kind, op_n, op_r]
            refine (ans_rtouch hT2 (fun b hb => hy.lt b hb) (fun h => by have := hy.blk _ h; omega) (by omega) o.n).mono ?_
            rintro z M3 ⟨hz, kk3, hT3⟩
            rw [s2] at hz
            have pA3 := kk3.own pA2 (by simp; omega)
            have hy3 := hy.kept kk3 (fun b hb => by have := hy.blk b hb; simp; omega)
            have hRl : (t.touchR o.n).length < 1000 := by
              unfold Tr.touchR; split
              · have := t.spoilR_len (Tr.touchL o.n); have : (Tr.touchL o.n).length ≤ 2 := by unfold Tr.touchL; split <;> simp
                omega
              · simp
            simp -implicitDefEqProofs (disch := (first | omega | (simp only [lenB, MB.cells_len, N1.cells_len, Rf.cells_len, flat8_len, flatU_len, Tr.row_len, TOp.cells_len] <;> omega) | fail)) only [admQ, lenB, MB.cells_len, N1.cells_len, Rf.cells_len, flat8_len, flatU_len, Tr.row_len, TOp.cells_len, aFill, AK.cls, implies_true, ↓reduceIte, reduceCtorEq, if_true, if_false, Nat.reduceAdd, Nat.reduceEqDiff, Nat.reduceMod, Nat.reduceLT, Nat.reduceLeDiff, Nat.reduceSub, Nat.reduceMul, Nat.reduceBEq, Int.reduceAdd, Int.reduceSub, Int.reduceMul, Int.reduceNeg, Int.reduceLT, Int.reduceLE, Int.reduceToNat, Int.reduceEq, Int.reduceBEq, joins]
            exact ⟨(y, z), rfl, _, _, _, hRl, hy3.low (by omega), hz.low (by omega), pA3, hT3, s1, hnl, (k1.trans (kk2.more (fun q hq _ => by simp at hq ⊢; exact .inl hq))).trans (kk3.more (fun q hq _ => by simp at hq ⊢; exact .inr hq))⟩
          · have hR : o.runT t = t := by simp [TOp.runT, k0, k1', k2', k3]
            rw [hR]
            simp -implicitDefEqProofs (disch := (first | omega | (simp only [lenB, MB.cells_len, N1.cells_len, Rf.cells_len, flat8_len, flatU_len, Tr.row_len, TOp.cells_len] <;> omega) | fail)) only [admQ, lenB, MB.cells_len, N1.cells_len, Rf.cells_len, flat8_len, flatU_len, Tr.row_len, TOp.cells_len, aFill, AK.cls, implies_true, ↓reduceIte, reduceCtorEq, if_true, if_false, Nat.reduceAdd, Nat.reduceEqDiff, Nat.reduceMod, Nat.reduceLT, Nat.reduceLeDiff, Nat.reduceSub, Nat.reduceMul, Nat.reduceBEq, Int.reduceAdd, Int.reduceSub, Int.reduceMul, Int.reduceNeg, Int.reduceLT, Int.reduceLE, Int.reduceToNat, Int.reduceEq, Int.reduceBEq, e28_1, joins, r1, op_kind, op_n, op_r, beq_eq_false_iff_ne.mpr k0, beq_eq_false_iff_ne.mpr k1', beq_eq_false_iff_ne.mpr k2', beq_eq_false_iff_ne.mpr k3, beq_eq_false_iff_ne.mpr k4]
            exact ⟨(.nils, .nils), rfl, [], bl, nd, by simp, .nils .., .nils .., pA1, hT1.fresh (by simp [blkOf]), hS, by omega, k1⟩
    · rintro ⟨y, z⟩ M2 ⟨R, bl', nd', hRl, hy, hz, pA2, hT2, hS2, hnl, kk2⟩
      dsimp only at hy hz hT2 ⊢
      simp -implicitDefEqProofs (disch := (first | omega | (simp only [lenB, MB.cells_len, N1.cells_len, Rf.cells_len, flat8_len, flatU_len, Tr.row_len, TOp.cells_len] <;> omega) | fail)) only [admQ, lenB, MB.cells_len, N1.cells_len, Rf.cells_len, flat8_len, flatU_len, Tr.row_len, TOp.cells_len, aFill, AK.cls, implies_true, ↓reduceIte, reduceCtorEq, if_true, if_false, Nat.reduceAdd, Nat.reduceEqDiff, Nat.reduceMod, Nat.reduceLT, Nat.reduceLeDiff, Nat.reduceSub, Nat.reduceMul, Nat.reduceBEq, Int.reduceAdd, Int.reduceSub, Int.reduceMul, Int.reduceNeg, Int.reduceLT, Int.reduceLE, Int.reduceToNat, Int.reduceEq, Int.reduceBEq, e28_2]
      refine (ans_samerefs hy hz (by omega)).mono ?_
      rintro _ _ ⟨rfl, rfl⟩
      rename_i M2
      simp -implicitDefEqProofs (disch := (first | omega | (simp only [lenB, MB.cells_len, N1.cells_len, Rf.cells_len, flat8_len, flatU_len, Tr.row_len, TOp.cells_len] <;> omega) | fail)) only [admQ, lenB, MB.cells_len, N1.cells_len, Rf.cells_len, flat8_len, flatU_len, Tr.row_len, TOp.cells_len, aFill, AK.cls, implies_true, ↓reduceIte, reduceCtorEq, if_true, if_false, Nat.reduceAdd, Nat.reduceEqDiff, Nat.reduceMod, Nat.reduceLT, Nat.reduceLeDiff, Nat.reduceSub, Nat.reduceMul, Nat.reduceBEq, Int.reduceAdd, Int.reduceSub, Int.reduceMul, Int.reduceNeg, Int.reduceLT, Int.reduceLE, Int.reduceToNat, Int.reduceEq, Int.reduceBEq, dec_t]
      refine (ans_spoilrefs hy (by omega)).mono ?_
      rintro _ M3 kk3
      simp -implicitDefEqProofs (disch := (first | omega | (simp only [lenB, MB.cells_len, N1.cells_len, Rf.cells_len, flat8_len, flatU_len, Tr.row_len, TOp.cells_len] <;> omega) | fail)) only [admQ, lenB, MB.cells_len, N1.cells_len, Rf.cells_len, flat8_len, flatU_len, Tr.row_len, TOp.cells_len, aFill, AK.cls, implies_true, ↓reduceIte, reduceCtorEq, if_true, if_false, Nat.reduceAdd, Nat.reduceEqDiff, Nat.reduceMod, Nat.reduceLT, Nat.reduceLeDiff, Nat.reduceSub, Nat.reduceMul, Nat.reduceBEq, Int.reduceAdd, Int.reduceSub, Int.reduceMul, Int.reduceNeg, Int.reduceLT, Int.reduceLE, Int.reduceToNat, Int.reduceEq, Int.reduceBEq]
      refine ⟨kk3.own pA2 (fun h => by have := hy.blk _ h; omega), kk2.fresh kk3 (fun b hb => hy.blk b hb), bl', nd', ?_, hS2, hnl⟩
      exact (hT2.kept kk3 (fun q hq => .inr hq) (fun h => by have := hy.blk _ h; omega)).free
theorem ans_treeruns {m : Mem} {x : AV} {L : List TOp} (hx : RdO m x L) : Ans Try.prog 7 [x] m fun y m' => y = .bool true ∧ Kept [] m m' := by
  refine ans_ret mixed ok7 ?_
  have hlx := hx.len
  by_cases h2 : 200 < L.length
  · simp -implicitDefEqProofs (disch := (first | omega | (simp only [lenB, MB.cells_len, N1.cells_len, Rf.cells_len, flat8_len, flatU_len, Tr.row_len, TOp.cells_len] <;> omega) | fail)) only [admQ, lenB, MB.cells_len, N1.cells_len, Rf.cells_len, flat8_len, flatU_len, Tr.row_len, TOp.cells_len, aFill, AK.cls, implies_true, ↓reduceIte, reduceCtorEq, if_true, if_false, Nat.reduceAdd, Nat.reduceEqDiff, Nat.reduceMod, Nat.reduceLT, Nat.reduceLeDiff, Nat.reduceSub, Nat.reduceMul, Nat.reduceBEq, Int.reduceAdd, Int.reduceSub, Int.reduceMul, Int.reduceNeg, Int.reduceLT, Int.reduceLE, Int.reduceToNat, Int.reduceEq, Int.reduceBEq, c7, r7, hlx, dec_t, dec_f]
    refine (ans_trworks _).mono ?_
    rintro _ m1 ⟨rfl, k1⟩
    simp -implicitDefEqProofs (disch := (first | omega | (simp only [lenB, MB.cells_len, N1.cells_len, Rf.cells_len, flat8_len, flatU_len, Tr.row_len, TOp.cells_len] <;> omega) | fail)) only [admQ, lenB, MB.cells_len, N1.cells_len, Rf.cells_len, flat8_len, flatU_len, Tr.row_len, TOp.cells_len, aFill, AK.cls, implies_true, ↓reduceIte, reduceCtorEq, if_true, if_false, Nat.reduceAdd, Nat.reduceEqDiff, Nat.reduceMod, Nat.reduceLT, Nat.reduceLeDiff, Nat.reduceSub, Nat.reduceMul, Nat.reduceBEq, Int.reduceAdd, Int.reduceSub, Int.reduceMul, Int.reduceNeg, Int.reduceLT, Int.reduceLE, Int.reduceToNat, Int.reduceEq, Int.reduceBEq]
    exact k1
  · simp -implicitDefEqProofs (disch := (first | omega | (simp only [lenB, MB.cells_len, N1.cells_len, Rf.cells_len, flat8_len, flatU_len, Tr.row_len, TOp.cells_len] <;> omega) | fail)) only [admQ, lenB, MB.cells_len, N1.cells_len, Rf.cells_len, flat8_len, flatU_len, Tr.row_len, TOp.cells_len, aFill, AK.cls, implies_true, ↓reduceIte, reduceCtorEq, if_true, if_false, Nat.reduceAdd, Nat.reduceEqDiff, Nat.reduceMod, Nat.reduceLT, Nat.reduceLeDiff, Nat.reduceSub, Nat.reduceMul, Nat.reduceBEq, Int.reduceAdd, Int.reduceSub, Int.reduceMul, Int.reduceNeg, Int.reduceLT, Int.reduceLE, Int.reduceToNat, Int.reduceEq, Int.reduceBEq, c7, r7, hlx, dec_t, dec_f]
    refine (ans_trnew m).mono ?_
    rintro _ m1 ⟨rfl, k1, pA1⟩
    have hl1 := own_lt pA1
    simp -implicitDefEqProofs (disch := (first | omega | (simp only [lenB, MB.cells_len, N1.cells_len, Rf.cells_len, flat8_len, flatU_len, Tr.row_len, TOp.cells_len] <;> omega) | fail)) only [admQ, lenB, MB.cells_len, N1.cells_len, Rf.cells_len, flat8_len, flatU_len, Tr.row_len, TOp.cells_len, aFill, AK.cls, implies_true, ↓reduceIte, reduceCtorEq, if_true, if_false, Nat.reduceAdd, Nat.reduceEqDiff, Nat.reduceMod, Nat.reduceLT, Nat.reduceLeDiff, Nat.reduceSub, Nat.reduceMul, Nat.reduceBEq, Int.reduceAdd, Int.reduceSub, Int.reduceMul, Int.reduceNeg, Int.reduceLT, Int.reduceLE, Int.reduceToNat, Int.reduceEq, Int.reduceBEq]
    refine (ans_qnew m1).mono ?_
    rintro _ m2 ⟨rfl, k2, hT2⟩
    have pA2 := k2.own0 pA1
    have k02 := k1.trans k2
    simp -implicitDefEqProofs (disch := (first | omega | (simp only [lenB, MB.cells_len, N1.cells_len, Rf.cells_len, flat8_len, flatU_len, Tr.row_len, TOp.cells_len] <;> omega) | fail)) only [admQ, lenB, MB.cells_len, N1.cells_len, Rf.cells_len, flat8_len, flatU_len, Tr.row_len, TOp.cells_len, aFill, AK.cls, implies_true, ↓reduceIte, reduceCtorEq, if_true, if_false, Nat.reduceAdd, Nat.reduceEqDiff, Nat.reduceMod, Nat.reduceLT, Nat.reduceLeDiff, Nat.reduceSub, Nat.reduceMul, Nat.reduceBEq, Int.reduceAdd, Int.reduceSub, Int.reduceMul, Int.reduceNeg, Int.reduceLT, Int.reduceLE, Int.reduceToNat, Int.reduceEq, Int.reduceBEq]
    generalize hA : m.length = A at *
    generalize hP : m1.length + 1 = p at *
    have hAp : A + 1 < p := by omega
    refine (ans_alike pA2 hT2 new_sm (by simp)).mono ?_
    rintro _ m3 ⟨rfl, k3⟩
    simp -implicitDefEqProofs (disch := (first | omega | (simp only [lenB, MB.cells_len, N1.cells_len, Rf.cells_len, flat8_len, flatU_len, Tr.row_len, TOp.cells_len] <;> omega) | fail)) only [admQ, lenB, MB.cells_len, N1.cells_len, Rf.cells_len, flat8_len, flatU_len, Tr.row_len, TOp.cells_len, aFill, AK.cls, implies_true, ↓reduceIte, reduceCtorEq, if_true, if_false, Nat.reduceAdd, Nat.reduceEqDiff, Nat.reduceMod, Nat.reduceLT, Nat.reduceLeDiff, Nat.reduceSub, Nat.reduceMul, Nat.reduceBEq, Int.reduceAdd, Int.reduceSub, Int.reduceMul, Int.reduceNeg, Int.reduceLT, Int.reduceLE, Int.reduceToNat, Int.reduceEq, Int.reduceBEq]
    refine LoopW.on (fun s : Nat × Tr => [(0, x), (3, .ptr A 0), (4, .ptr p 0), (5, .int .i64 s.1)]) (fun s => L.length - s.1)
      (fun s m' => s.1 ≤ L.length ∧ Kept [] m m' ∧ own m' A = some s.2.row ∧ ∃ bl nd, RT m' p [] bl nd ∧ Smr s.2 bl nd ∧ nd.length ≤ 1 + 2 * s.1) ?_ (0, Tr.new) _ _ rfl ⟨by omega, k02.trans k3, k3.own0 pA2, _, _, hT2.kept0 k3, new_sm, by simp⟩
    clear k1 pA1 hl1 k2 hT2 pA2 k02 k3 m2 m3
    rintro ⟨j, t⟩ m3 X ⟨hj, k3, pA, bl, nd, hT, hS, hnl⟩ hX
    dsimp only at hj k3 pA hnl hS hX ⊢
    by_cases hlt : j < L.length
    · obtain ⟨b, cap, c0, rfl, hr, e, el⟩ := (hx.kept0 k3).at_ hlt
      generalize L[j] = o at *
      simp -implicitDefEqProofs (disch := (first | omega | (simp only [lenB, MB.cells_len, N1.cells_len, Rf.cells_len, flat8_len, flatU_len, Tr.row_len, TOp.cells_len] <;> omega) | fail)) only [admQ, lenB, MB.cells_len, N1.cells_len, Rf.cells_len, flat8_len, flatU_len, Tr.row_len, TOp.cells_len, aFill, AK.cls, implies_true, ↓reduceIte, reduceCtorEq, if_true, if_false, Nat.reduceAdd, Nat.reduceEqDiff, Nat.reduceMod, Nat.reduceLT, Nat.reduceLeDiff, Nat.reduceSub, Nat.reduceMul, Nat.reduceBEq, Int.reduceAdd, Int.reduceSub, Int.reduceMul, Int.reduceNeg, Int.reduceLT, Int.reduceLE, Int.reduceToNat, Int.reduceEq, Int.reduceBEq, hlx, dec_t, dec_f, hr, e]
      refine (ans_both pA hT hS (by omega) (by omega) o).mono ?_
      rintro _ m4 ⟨rfl, pA4, k4, bl', nd', hT4, hS4, hn4⟩
      have k04 := k3.upon k4 (fun q hq => by simp at hq; omega)
      simp -implicitDefEqProofs (disch := (first | omega | (simp only [lenB, MB.cells_len, N1.cells_len, Rf.cells_len, flat8_len, flatU_len, Tr.row_len, TOp.cells_len] <;> omega) | fail)) only [admQ, lenB, MB.cells_len, N1.cells_len, Rf.cells_len, flat8_len, flatU_len, Tr.row_len, TOp.cells_len, aFill, AK.cls, implies_true, ↓reduceIte, reduceCtorEq, if_true, if_false, Nat.reduceAdd, Nat.reduceEqDiff, Nat.reduceMod, Nat.reduceLT, Nat.reduceLeDiff, Nat.reduceSub, Nat.reduceMul, Nat.reduceBEq, Int.reduceAdd, Int.reduceSub, Int.reduceMul, Int.reduceNeg, Int.reduceLT, Int.reduceLE, Int.reduceToNat, Int.reduceEq, Int.reduceBEq, Bool.not_true]
      refine (ans_alike pA4 hT4 hS4 (by omega)).mono ?_
      rintro _ m5 ⟨rfl, k5⟩
      simp -implicitDefEqProofs (disch := (first | omega | (simp only [lenB, MB.cells_len, N1.cells_len, Rf.cells_len, flat8_len, flatU_len, Tr.row_len, TOp.cells_len] <;> omega) | fail)) only [admQ, lenB, MB.cells_len, N1.cells_len, Rf.cells_len, flat8_len, flatU_len, Tr.row_len, TOp.cells_len, aFill, AK.cls, implies_true, ↓reduceIte, reduceCtorEq, if_true, if_false, Nat.reduceAdd, Nat.reduceEqDiff, Nat.reduceMod, Nat.reduceLT, Nat.reduceLeDiff, Nat.reduceSub, Nat.reduceMul, Nat.reduceBEq, Int.reduceAdd, Int.reduceSub, Int.reduceMul, Int.reduceNeg, Int.reduceLT, Int.reduceLE, Int.reduceToNat, Int.reduceEq, Int.reduceBEq, Bool.not_true]
      exact hX (j + 1, o.bothT t) _ _ rfl (by simp; omega) ⟨by simp; omega, k04.trans k5, k5.own0 pA4, bl', nd', hT4.kept0 k5, hS4, by simp; omega⟩
    · obtain rfl : j = L.length := by omega
      simp -implicitDefEqProofs (disch := (first | omega | (simp only [lenB, MB.cells_len, N1.cells_len, Rf.cells_len, flat8_len, flatU_len, Tr.row_len, TOp.cells_len] <;> omega) | fail)) only [admQ, lenB, MB.cells_len, N1.cells_len, Rf.cells_len, flat8_len, flatU_len, Tr.row_len, TOp.cells_len, aFill, AK.cls, implies_true, ↓reduceIte, reduceCtorEq, if_true, if_false, Nat.reduceAdd, Nat.reduceEqDiff, Nat.reduceMod, Nat.reduceLT, Nat.reduceLeDiff, Nat.reduceSub, Nat.reduceMul, Nat.reduceBEq, Int.reduceAdd, Int.reduceSub, Int.reduceMul, Int.reduceNeg, Int.reduceLT, Int.reduceLE, Int.reduceToNat, Int.reduceEq, Int.reduceBEq, hlx, dec_t, dec_f]
      refine (ans_trworks m3).mono ?_
      rintro _ m4 ⟨rfl, k4⟩
      simp -implicitDefEqProofs (disch := (first | omega | (simp only [lenB, MB.cells_len, N1.cells_len, Rf.cells_len, flat8_len, flatU_len, Tr.row_len, TOp.cells_len] <;> omega) | fail)) only [admQ, lenB, MB.cells_len, N1.cells_len, Rf.cells_len, flat8_len, flatU_len, Tr.row_len, TOp.cells_len, aFill, AK.cls, implies_true, ↓reduceIte, reduceCtorEq, if_true, if_false, Nat.reduceAdd, Nat.reduceEqDiff, Nat.reduceMod, Nat.reduceLT, Nat.reduceLeDiff, Nat.reduceSub, Nat.reduceMul, Nat.reduceBEq, Int.reduceAdd, Int.reduceSub, Int.reduceMul, Int.reduceNeg, Int.reduceLT, Int.reduceLE, Int.reduceToNat, Int.reduceEq, Int.reduceBEq]
      exact k3.trans k4
end Go.Proofs.Ytmklcealhjmlgaa
end
section
/- The statement TreeKnown, walked. -/
namespace Go.Proofs.Ytmklcealhjmlgaa
open Go Go.Adm
set_option linter.unusedSimpArgs false
set_option maxRecDepth 100000
set_option maxHeartbeats 1000000
def nI : List Int := [-9223372036854775808, -1, 0, 1, 2, 7, 8, 9, 10, 63, 64, 9223372036854775807]
theorem nI_len : (nI.map (AV.int .i64)).length = 12 := rfl
theorem fill12 : aFill (List.replicate 12 (AV.int .i64 0)) [(0, 1), (1, 1), (2, 1), (3, 1), (4, 1), (5, 1), (6, 1), (7, 1), (8, 1), (9, 1), (10, 1), (11, 1)] [AV.int .i64 (-9223372036854775808), AV.int .i64 (-1), AV.int .i64 0, AV.int .i64 1, AV.int .i64 2, AV.int .i64 7, AV.int .i64 8, AV.int .i64 9, AV.int .i64 10, AV.int .i64 63, AV.int .i64 64, AV.int .i64 9223372036854775807] = some (nI.map (AV.int .i64)) := rfl
def opz : TOp := ⟨0, 0, Rf.zero, fun _ => Rf.zero⟩
theorem op_zero : AV.int .i64 0 :: .int .i64 0 :: rep 9 Rf.zero.cells = opz.cells := rfl
theorem op_setk (n : Int) (r : Rf) (f : Nat → Rf) (k k' : Int) : splice (TOp.mk k n r f).cells 0 [.int .i64 k'] = (TOp.mk k' n r f).cells := rfl
theorem op_setn (n n' : Int) (r : Rf) (f : Nat → Rf) (k : Int) : splice (TOp.mk k n r f).cells 1 [.int .i64 n'] = (TOp.mk k n' r f).cells := rfl
theorem op_setr (n : Int) (r r' : Rf) (f : Nat → Rf) (k : Int) : splice (TOp.mk k n r f).cells 2 r'.cells = (TOp.mk k n r' f).cells := by
  simp only [splice, TOp.cells, List.take_succ_cons, List.take_zero, List.singleton_append, List.cons_append, List.nil_append, List.cons.injEq, true_and, Rf.cells_len, List.append_assoc]
  rw [show 2 + 33 = 33 + 1 + 1 from rfl, List.drop_succ_cons, List.drop_succ_cons, List.drop_append_of_le_length (by rw [Rf.cells_len]; exact Nat.le_refl _), List.drop_of_length_le (by rw [Rf.cells_len]; exact Nat.le_refl _), List.nil_append]
theorem op_setp (n : Int) (r : Rf) (f g : Nat → Rf) (k : Int) : splice (TOp.mk k n r f).cells 35 (flatOf Rf.cells (tab 8 g)) = (TOp.mk k n r g).cells := by
  have e : (TOp.mk k n r f).cells.take 35 = AV.int .i64 k :: .int .i64 n :: r.cells := by
    rw [TOp.cells, show 35 = 33 + 1 + 1 from rfl, List.take_succ_cons, List.take_succ_cons, List.take_append_of_le_length (by rw [Rf.cells_len]; exact Nat.le_refl _), take_rf]
  rw [splice, e, List.drop_of_length_le (by rw [flat8_len, TOp.cells_len]; exact Nat.le_refl _), List.append_nil]
  rfl
theorem opz_eq : (TOp.mk 0 0 Rf.zero fun _ => Rf.zero).cells = opz.cells := rfl
theorem fillkn (k n : Int) : aFill opz.cells [(0, 1), (1, 1)] [.int .i64 k, .int .i64 n] = some (TOp.mk k n Rf.zero fun _ => Rf.zero).cells := rfl
theorem fillk (k : Int) : aFill opz.cells [(0, 1)] [.int .i64 k] = some (TOp.mk k 0 Rf.zero fun _ => Rf.zero).cells := rfl
theorem agg1 (l : List AV) : cellsV (.agg l) = l := rfl
theorem agg2 (l : List AV) : AV.solid (.agg l) = true := rfl
theorem fillnr (n : Int) (r : Rf) : aFill opz.cells [(1, 1), (2, 33)] [.int .i64 n, .agg r.cells] = some (TOp.mk 0 n r fun _ => Rf.zero).cells := by
  simp only [aFill, cellsV, agg1, agg2, opz, op_setn, op_setr, Rf.cells_len, TOp.cells_len, List.length_cons, List.length_nil, AV.solid]; simp
theorem fillknr (k n : Int) (r : Rf) : aFill opz.cells [(0, 1), (1, 1), (2, 33)] [.int .i64 k, .int .i64 n, .agg r.cells] = some (TOp.mk k n r fun _ => Rf.zero).cells := by
  simp only [aFill, cellsV, agg1, agg2, opz, op_setk, op_setn, op_setr, Rf.cells_len, TOp.cells_len, List.length_cons, List.length_nil, AV.solid]; simp
theorem fillkpr (k n : Int) (r : Rf) (f : Nat → Rf) : aFill opz.cells [(0, 1), (1, 1), (35, 264), (2, 33)] [.int .i64 k, .int .i64 n, .agg (flatOf Rf.cells (tab 8 f)), .agg r.cells] = some (TOp.mk k n r f).cells := by
  simp only [aFill, cellsV, agg1, agg2, opz, op_setk, op_setn, op_setr, op_setp, flat8_len, Rf.cells_len, TOp.cells_len, List.length_cons, List.length_nil, AV.solid]; simp
theorem ops17 : rep 17 opz.cells = flatOf TOp.cells (List.replicate 17 opz) := rfl
theorem flat17_len (l : List TOp) : (flatOf TOp.cells l).length = l.length * 299 := flatOf_length TOp.cells_len l
theorem set17 (l : List TOp) (i k : Nat) (hl : l.length = 17) (h : k = i * 299) (hi : i < 17) (o : TOp) : splice (flatOf TOp.cells l) k o.cells = flatOf TOp.cells (l.set i o) := by
  rw [h]; exact flatOf_set TOp.cells_len l i o (by omega)
theorem len17 (l : List TOp) (i : Nat) (o : TOp) (h : l.length = 17) : (l.set i o).length = 17 := by rw [List.length_set]; exact h
theorem aFill_ops : ∀ (vs d rest : List TOp), rest.length = vs.length → aFill (flatOf TOp.cells (d ++ rest)) ((List.range' d.length vs.length).map fun i => (i * 299, 299)) (vs.map fun o => AV.agg o.cells) = some (flatOf TOp.cells (d ++ vs)) := by
  intro vs
  induction vs with
  | nil => intro d rest h; cases rest with
    | nil => rfl
    | cons => cases h
  | cons v vs ih =>
    intro d rest h
    cases rest with
    | nil => cases h
    | cons r rest =>
      have e : splice (flatOf TOp.cells (d ++ r :: rest)) (d.length * 299) v.cells = flatOf TOp.cells ((d ++ [v]) ++ rest) := by
        rw [flatOf_set TOp.cells_len _ _ _ (by simp)]; simp
      have := ih (d ++ [v]) rest (by simpa using h)
      rw [List.length_append, List.length_singleton] at this
      simp only [List.length_cons, List.range'_succ, List.map_cons, aFill, cellsV, AV.solid]
      rw [if_pos ⟨v.cells_len, by rw [flat17_len]; simp; omega, trivial⟩, e, this]
      simp
theorem fill17 (o0 o1 o2 o3 o4 o5 o6 o7 o8 o9 o10 o11 o12 o13 o14 o15 o16 : TOp) : aFill (rep 17 opz.cells) [(0, 299), (299, 299), (598, 299), (897, 299), (1196, 299), (1495, 299), (1794, 299), (2093, 299), (2392, 299), (2691, 299), (2990, 299), (3289, 299), (3588, 299), (3887, 299), (4186, 299), (4485, 299), (4784, 299)] [.agg o0.cells, .agg o1.cells, .agg o2.cells, .agg o3.cells, .agg o4.cells, .agg o5.cells, .agg o6.cells, .agg o7.cells, .agg o8.cells, .agg o9.cells, .agg o10.cells, .agg o11.cells, .agg o12.cells, .agg o13.cells, .agg o14.cells, .agg o15.cells, .agg o16.cells] = some (flatOf TOp.cells [o0, o1, o2, o3, o4, o5, o6, o7, o8, o9, o10, o11, o12, o13, o14, o15, o16]) := by
  rw [ops17]
  exact aFill_ops [o0, o1, o2, o3, o4, o5, o6, o7, o8, o9, o10, o11, o12, o13, o14, o15, o16] [] (List.replicate 17 opz) (by simp)
theorem ans_treeknown (m : Mem) : Ans Try.prog 8 [] m fun y m' => y = .bool true ∧ Kept [] m m' := by
  refine ans_ret mixed ok8 ?_
  simp -implicitDefEqProofs (disch := (first | omega | (simp only [lenB, MB.cells_len, N1.cells_len, Rf.cells_len, flat8_len, flatU_len, Tr.row_len, TOp.cells_len, flat17_len, nI_len] <;> omega) | fail)) only [admQ, lenB, MB.cells_len, N1.cells_len, Rf.cells_len, flat8_len, flatU_len, Tr.row_len, TOp.cells_len, flat17_len, nI_len, AK.cls, implies_true, ↓reduceIte, reduceCtorEq, if_true, if_false, Nat.reduceAdd, Nat.reduceEqDiff, Nat.reduceMod, Nat.reduceLT, Nat.reduceLeDiff, Nat.reduceSub, Nat.reduceMul, Nat.reduceBEq, Int.reduceAdd, Int.reduceSub, Int.reduceMul, Int.reduceNeg, Int.reduceLT, Int.reduceLE, Int.reduceToNat, Int.reduceEq, Int.reduceBEq, q8, d8_1, d8_3, r8, fill12]
  have hn : own (m ++ [.row (nI.map (AV.int .i64)) false]) m.length = some (nI.map (AV.int .i64)) := by rw [own_app_at0, own_c0]
  have k0 : Kept [] m (m ++ [.row (nI.map (AV.int .i64)) false]) := .app _ _ _
  refine LoopW.on (fun i : Nat => [(1, .sl m.length 0 12 12 0), (2, .int .i64 i)]) (fun i => 12 - i)
    (fun i m' => i ≤ 12 ∧ Kept [] m m' ∧ own m' m.length = some (nI.map (AV.int .i64))) ?_ 0 _ _ rfl ⟨by omega, k0, hn⟩
  clear k0 hn
  rintro i m1 X ⟨hi, k1, n1⟩ hX
  by_cases hlt : i < 12
  · simp -implicitDefEqProofs (disch := (first | omega | (simp only [lenB, MB.cells_len, N1.cells_len, Rf.cells_len, flat8_len, flatU_len, Tr.row_len, TOp.cells_len, flat17_len, nI_len] <;> omega) | fail)) only [admQ, lenB, MB.cells_len, N1.cells_len, Rf.cells_len, flat8_len, flatU_len, Tr.row_len, TOp.cells_len, flat17_len, nI_len, aFill, AK.cls, implies_true, ↓reduceIte, reduceCtorEq, if_true, if_false, Nat.reduceAdd, Nat.reduceEqDiff, Nat.reduceMod, Nat.reduceLT, Nat.reduceLeDiff, Nat.reduceSub, Nat.reduceMul, Nat.reduceBEq, Int.reduceAdd, Int.reduceSub, Int.reduceMul, Int.reduceNeg, Int.reduceLT, Int.reduceLE, Int.reduceToNat, Int.reduceEq, Int.reduceBEq, dec_t, dec_f, d8_2, d8_3]
    generalize hq : m.length = q at *
    refine LoopW.on (fun j : Nat => [(1, .sl q 0 12 12 0), (2, .int .i64 i), (3, .int .i64 j)]) (fun j => 12 - j)
      (fun j m' => j ≤ 12 ∧ Kept [] m m' ∧ own m' q = some (nI.map (AV.int .i64))) ?_ 0 _ _ rfl ⟨by omega, k1, n1⟩
    clear k1 n1
    rintro j m1 X2 ⟨hj, k1, n1⟩ hX2
    by_cases hjt : j < 12
    · have ei : (nI.map (AV.int .i64))[i]? = some (.int .i64 (nI[i]'hlt)) := by rw [List.getElem?_map, List.getElem?_eq_getElem (show i < nI.length from hlt)]; rfl
      have ej : (nI.map (AV.int .i64))[j]? = some (.int .i64 (nI[j]'hjt)) := by rw [List.getElem?_map, List.getElem?_eq_getElem (show j < nI.length from hjt)]; rfl
      generalize nI[i]'hlt = vi at *
      generalize nI[j]'hjt = vj at *
      have hz8 : splice (flatOf Rf.cells (tab 8 fun _ => Rf.zero)) 0 (flatOf Rf.cells (tab 8 fun _ => Rf.zero)) = flatOf Rf.cells (tab 8 fun _ => Rf.zero) := splice_flat8 _ _
      simp -implicitDefEqProofs (disch := (first | omega | (simp only [lenB, MB.cells_len, N1.cells_len, Rf.cells_len, flat8_len, flatU_len, Tr.row_len, TOp.cells_len, flat17_len, nI_len] <;> omega) | fail)) only [admQ, lenB, MB.cells_len, N1.cells_len, Rf.cells_len, flat8_len, flatU_len, Tr.row_len, TOp.cells_len, flat17_len, nI_len, aFill, AK.cls, implies_true, ↓reduceIte, reduceCtorEq, if_true, if_false, Nat.reduceAdd, Nat.reduceEqDiff, Nat.reduceMod, Nat.reduceLT, Nat.reduceLeDiff, Nat.reduceSub, Nat.reduceMul, Nat.reduceBEq, Int.reduceAdd, Int.reduceSub, Int.reduceMul, Int.reduceNeg, Int.reduceLT, Int.reduceLE, Int.reduceToNat, Int.reduceEq, Int.reduceBEq, dec_t, dec_f, d8_4, rf_zero, flat8_zero.symm, hz8, flat8_len]
      have p2 : own (m1 ++ [.row (flatOf Rf.cells (tab 8 fun _ => Rf.zero)) false]) m1.length = some (flatOf Rf.cells (tab 8 fun _ => Rf.zero)) := by rw [own_app_at0, own_c0]
      have n2 := own_app n1 [.row (flatOf Rf.cells (tab 8 fun _ => Rf.zero)) false]
      have k2 := k1.trans (.app [] m1 [.row (flatOf Rf.cells (tab 8 fun _ => Rf.zero)) false])
      have hl2 : m1.length < (m1 ++ [Blk.row (flatOf Rf.cells (tab 8 fun _ => Rf.zero)) false]).length := by simp
      have hq1 := own_lt n1
      have hml := k1.len
      generalize m1 ++ [Blk.row (flatOf Rf.cells (tab 8 fun _ => Rf.zero)) false] = m2 at *
      generalize m1.length = p at *
      refine (ans_pick (j : Int) 8 (by decide) m2).mono ?_
      rintro _ _ ⟨rfl, rfl⟩
      rename_i m2
      have hpk := pickI_in (k := (j : Int)) (show (0 : Int) < 8 by decide)
      obtain ⟨pk, hpk'⟩ := Int.eq_ofNat_of_zero_le hpk.1
      rw [hpk'] at hpk ⊢
      have hpk8 : pk < 8 := by omega
      have r2 := rowOf_own n2
      simp -implicitDefEqProofs (disch := (first | omega | (simp only [lenB, MB.cells_len, N1.cells_len, Rf.cells_len, flat8_len, flatU_len, Tr.row_len, TOp.cells_len, flat17_len, nI_len] <;> omega) | fail)) only [admQ, lenB, MB.cells_len, N1.cells_len, Rf.cells_len, flat8_len, flatU_len, Tr.row_len, TOp.cells_len, flat17_len, nI_len, aFill, AK.cls, implies_true, ↓reduceIte, reduceCtorEq, if_true, if_false, Nat.reduceAdd, Nat.reduceEqDiff, Nat.reduceMod, Nat.reduceLT, Nat.reduceLeDiff, Nat.reduceSub, Nat.reduceMul, Nat.reduceBEq, Int.reduceAdd, Int.reduceSub, Int.reduceMul, Int.reduceNeg, Int.reduceLT, Int.reduceLE, Int.reduceToNat, Int.reduceEq, Int.reduceBEq, r2, ei, nI_len]
      refine (ans_lawref vi m2).mono ?_
      rintro _ m3 ⟨rfl, k3⟩
      have n3 := k3.own0 n2
      have p3 := k3.own0 p2
      have hps := flat8_set (fun _ => Rf.zero) hpk8 (refOf vi)
      simp -implicitDefEqProofs (disch := (first | omega | (simp only [lenB, MB.cells_len, N1.cells_len, Rf.cells_len, flat8_len, flatU_len, Tr.row_len, TOp.cells_len, flat17_len, nI_len] <;> omega) | fail)) only [admQ, lenB, MB.cells_len, N1.cells_len, Rf.cells_len, flat8_len, flatU_len, Tr.row_len, TOp.cells_len, flat17_len, nI_len, aFill, AK.cls, implies_true, ↓reduceIte, reduceCtorEq, if_true, if_false, Nat.reduceAdd, Nat.reduceEqDiff, Nat.reduceMod, Nat.reduceLT, Nat.reduceLeDiff, Nat.reduceSub, Nat.reduceMul, Nat.reduceBEq, Int.reduceAdd, Int.reduceSub, Int.reduceMul, Int.reduceNeg, Int.reduceLT, Int.reduceLE, Int.reduceToNat, Int.reduceEq, Int.reduceBEq, r2, rowOf_own n3, ei, nI_len, p3, hps]
      have p4 : own (List.set m3 p (.row (flatOf Rf.cells (tab 8 fun j => if j = pk then refOf vi else Rf.zero)) false)) p = some (flatOf Rf.cells (tab 8 fun j => if j = pk then refOf vi else Rf.zero)) := own_set (own_lt p3) _
      have n4 : own (List.set m3 p (.row (flatOf Rf.cells (tab 8 fun j => if j = pk then refOf vi else Rf.zero)) false)) q = some (nI.map (AV.int .i64)) := own_set_ne' n3 (by omega) _
      have k4 : Kept [] m (List.set m3 p (.row (flatOf Rf.cells (tab 8 fun j => if j = pk then refOf vi else Rf.zero)) false)) := (k2.trans k3).write (.inr (by omega)) _
      generalize List.set m3 p (Blk.row (flatOf Rf.cells (tab 8 fun j => if j = pk then refOf vi else Rf.zero)) false) = m4 at *
      generalize (fun j => if j = pk then refOf vi else Rf.zero) = pg at *
      clear p3 n3 k2 k3 p2 n2 k1 n1 hps hpk hpk' hz8
      have rn4 := rowOf_own n4
      have rp4 := rowOf_own p4
      refine (ans_lawref _ m4).mono ?_
      rintro _ m5 ⟨rfl, g5⟩
      have n5 := g5.own0 n4
      have p5 := g5.own0 p4
      have k5 := k4.trans g5
      have rn5 := rowOf_own n5
      have rp5 := rowOf_own p5
      simp -implicitDefEqProofs (disch := (first | omega | (simp only [lenB, MB.cells_len, N1.cells_len, Rf.cells_len, flat8_len, flatU_len, Tr.row_len, TOp.cells_len, flat17_len, nI_len] <;> omega) | fail)) only [admQ, lenB, MB.cells_len, N1.cells_len, Rf.cells_len, flat8_len, flatU_len, Tr.row_len, TOp.cells_len, flat17_len, nI_len, AK.cls, implies_true, ↓reduceIte, reduceCtorEq, if_true, if_false, Nat.reduceAdd, Nat.reduceEqDiff, Nat.reduceMod, Nat.reduceLT, Nat.reduceLeDiff, Nat.reduceSub, Nat.reduceMul, Nat.reduceBEq, Int.reduceAdd, Int.reduceSub, Int.reduceMul, Int.reduceNeg, Int.reduceLT, Int.reduceLE, Int.reduceToNat, Int.reduceEq, Int.reduceBEq, rn4, rp4, rn5, rp5, ei, ej, nI_len, rf_zero, op_zero, op_setk, op_setn, op_setr, op_setp, take_flat8, opz_eq, fillknr, fillkn, fillk, fillnr, fillkpr]
      refine (ans_lawref _ m5).mono ?_
      rintro _ m6 ⟨rfl, g6⟩
      have n6 := g6.own0 n5
      have p6 := g6.own0 p5
      have k6 := k5.trans g6
      have rn6 := rowOf_own n6
      have rp6 := rowOf_own p6
      simp -implicitDefEqProofs (disch := (first | omega | (simp only [lenB, MB.cells_len, N1.cells_len, Rf.cells_len, flat8_len, flatU_len, Tr.row_len, TOp.cells_len, flat17_len, nI_len] <;> omega) | fail)) only [admQ, lenB, MB.cells_len, N1.cells_len, Rf.cells_len, flat8_len, flatU_len, Tr.row_len, TOp.cells_len, flat17_len, nI_len, AK.cls, implies_true, ↓reduceIte, reduceCtorEq, if_true, if_false, Nat.reduceAdd, Nat.reduceEqDiff, Nat.reduceMod, Nat.reduceLT, Nat.reduceLeDiff, Nat.reduceSub, Nat.reduceMul, Nat.reduceBEq, Int.reduceAdd, Int.reduceSub, Int.reduceMul, Int.reduceNeg, Int.reduceLT, Int.reduceLE, Int.reduceToNat, Int.reduceEq, Int.reduceBEq, rn4, rp4, rn5, rp5, rn6, rp6, ei, ej, nI_len, rf_zero, op_zero, op_setk, op_setn, op_setr, op_setp, take_flat8, opz_eq, fillknr, fillkn, fillk, fillnr, fillkpr]
      refine (ans_lawref _ m6).mono ?_
      rintro _ m7 ⟨rfl, g7⟩
      have n7 := g7.own0 n6
      have p7 := g7.own0 p6
      have k7 := k6.trans g7
      have rn7 := rowOf_own n7
      have rp7 := rowOf_own p7
      simp -implicitDefEqProofs (disch := (first | omega | (simp only [lenB, MB.cells_len, N1.cells_len, Rf.cells_len, flat8_len, flatU_len, Tr.row_len, TOp.cells_len, flat17_len, nI_len] <;> omega) | fail)) only [admQ, lenB, MB.cells_len, N1.cells_len, Rf.cells_len, flat8_len, flatU_len, Tr.row_len, TOp.cells_len, flat17_len, nI_len, AK.cls, implies_true, ↓reduceIte, reduceCtorEq, if_true, if_false, Nat.reduceAdd, Nat.reduceEqDiff, Nat.reduceMod, Nat.reduceLT, Nat.reduceLeDiff, Nat.reduceSub, Nat.reduceMul, Nat.reduceBEq, Int.reduceAdd, Int.reduceSub, Int.reduceMul, Int.reduceNeg, Int.reduceLT, Int.reduceLE, Int.reduceToNat, Int.reduceEq, Int.reduceBEq, rn4, rp4, rn5, rp5, rn6, rp6, rn7, rp7, ei, ej, nI_len, rf_zero, op_zero, op_setk, op_setn, op_setr, op_setp, take_flat8, opz_eq, fillknr, fillkn, fillk, fillnr, fillkpr]
      refine (ans_lawref _ m7).mono ?_
      rintro _ m8 ⟨rfl, g8⟩
      have n8 := g8.own0 n7
      have p8 := g8.own0 p7
      have k8 := k7.trans g8
      have rn8 := rowOf_own n8
      have rp8 := rowOf_own p8
      simp -implicitDefEqProofs (disch := (first | omega | (simp only [lenB, MB.cells_len, N1.cells_len, Rf.cells_len, flat8_len, flatU_len, Tr.row_len, TOp.cells_len, flat17_len, nI_len] <;> omega) | fail)) only [admQ, lenB, MB.cells_len, N1.cells_len, Rf.cells_len, flat8_len, flatU_len, Tr.row_len, TOp.cells_len, flat17_len, nI_len, AK.cls, implies_true, ↓reduceIte, reduceCtorEq, if_true, if_false, Nat.reduceAdd, Nat.reduceEqDiff, Nat.reduceMod, Nat.reduceLT, Nat.reduceLeDiff, Nat.reduceSub, Nat.reduceMul, Nat.reduceBEq, Int.reduceAdd, Int.reduceSub, Int.reduceMul, Int.reduceNeg, Int.reduceLT, Int.reduceLE, Int.reduceToNat, Int.reduceEq, Int.reduceBEq, rn4, rp4, rn5, rp5, rn6, rp6, rn7, rp7, rn8, rp8, ei, ej, nI_len, rf_zero, op_zero, op_setk, op_setn, op_setr, op_setp, take_flat8, opz_eq, fillknr, fillkn, fillk, fillnr, fillkpr]
      refine (ans_lawref _ m8).mono ?_
      rintro _ m9 ⟨rfl, g9⟩
      have n9 := g9.own0 n8
      have p9 := g9.own0 p8
      have k9 := k8.trans g9
      have rn9 := rowOf_own n9
      have rp9 := rowOf_own p9
      simp -implicitDefEqProofs (disch := (first | omega | (simp only [lenB, MB.cells_len, N1.cells_len, Rf.cells_len, flat8_len, flatU_len, Tr.row_len, TOp.cells_len, flat17_len, nI_len] <;> omega) | fail)) only [admQ, lenB, MB.cells_len, N1.cells_len, Rf.cells_len, flat8_len, flatU_len, Tr.row_len, TOp.cells_len, flat17_len, nI_len, AK.cls, implies_true, ↓reduceIte, reduceCtorEq, if_true, if_false, Nat.reduceAdd, Nat.reduceEqDiff, Nat.reduceMod, Nat.reduceLT, Nat.reduceLeDiff, Nat.reduceSub, Nat.reduceMul, Nat.reduceBEq, Int.reduceAdd, Int.reduceSub, Int.reduceMul, Int.reduceNeg, Int.reduceLT, Int.reduceLE, Int.reduceToNat, Int.reduceEq, Int.reduceBEq, rn4, rp4, rn5, rp5, rn6, rp6, rn7, rp7, rn8, rp8, rn9, rp9, ei, ej, nI_len, rf_zero, op_zero, op_setk, op_setn, op_setr, op_setp, take_flat8, opz_eq, fillknr, fillkn, fillk, fillnr, fillkpr]
      refine (ans_lawref _ m9).mono ?_
      rintro _ m10 ⟨rfl, g10⟩
      have n10 := g10.own0 n9
      have p10 := g10.own0 p9
      have k10 := k9.trans g10
      have rn10 := rowOf_own n10
      have rp10 := rowOf_own p10
      simp -implicitDefEqProofs (disch := (first | omega | (simp only [lenB, MB.cells_len, N1.cells_len, Rf.cells_len, flat8_len, flatU_len, Tr.row_len, TOp.cells_len, flat17_len, nI_len] <;> omega) | fail)) only [admQ, lenB, MB.cells_len, N1.cells_len, Rf.cells_len, flat8_len, flatU_len, Tr.row_len, TOp.cells_len, flat17_len, nI_len, AK.cls, implies_true, ↓reduceIte, reduceCtorEq, if_true, if_false, Nat.reduceAdd, Nat.reduceEqDiff, Nat.reduceMod, Nat.reduceLT, Nat.reduceLeDiff, Nat.reduceSub, Nat.reduceMul, Nat.reduceBEq, Int.reduceAdd, Int.reduceSub, Int.reduceMul, Int.reduceNeg, Int.reduceLT, Int.reduceLE, Int.reduceToNat, Int.reduceEq, Int.reduceBEq, rn4, rp4, rn5, rp5, rn6, rp6, rn7, rp7, rn8, rp8, rn9, rp9, rn10, rp10, ei, ej, nI_len, rf_zero, op_zero, op_setk, op_setn, op_setr, op_setp, take_flat8, opz_eq, fillknr, fillkn, fillk, fillnr, fillkpr]
      refine (ans_lawref _ m10).mono ?_
      rintro _ m11 ⟨rfl, g11⟩
      have n11 := g11.own0 n10
      have p11 := g11.own0 p10
      have k11 := k10.trans g11
      have rn11 := rowOf_own n11
      have rp11 := rowOf_own p11
      simp -implicitDefEqProofs (disch := (first | omega | (simp only [lenB, MB.cells_len, N1.cells_len, Rf.cells_len, flat8_len, flatU_len, Tr.row_len, TOp.cells_len, flat17_len, nI_len] <;> omega) | fail)) only [admQ, lenB, MB.cells_len, N1.cells_len, Rf.cells_len, flat8_len, flatU_len, Tr.row_len, TOp.cells_len, flat17_len, nI_len, AK.cls, implies_true, ↓reduceIte, reduceCtorEq, if_true, if_false, Nat.reduceAdd, Nat.reduceEqDiff, Nat.reduceMod, Nat.reduceLT, Nat.reduceLeDiff, Nat.reduceSub, Nat.reduceMul, Nat.reduceBEq, Int.reduceAdd, Int.reduceSub, Int.reduceMul, Int.reduceNeg, Int.reduceLT, Int.reduceLE, Int.reduceToNat, Int.reduceEq, Int.reduceBEq, rn4, rp4, rn5, rp5, rn6, rp6, rn7, rp7, rn8, rp8, rn9, rp9, rn10, rp10, rn11, rp11, ei, ej, nI_len, rf_zero, op_zero, op_setk, op_setn, op_setr, op_setp, take_flat8, opz_eq, fillknr, fillkn, fillk, fillnr, fillkpr]
      refine (ans_lawref _ m11).mono ?_
      rintro _ m12 ⟨rfl, g12⟩
      have n12 := g12.own0 n11
      have p12 := g12.own0 p11
      have k12 := k11.trans g12
      have rn12 := rowOf_own n12
      have rp12 := rowOf_own p12
      simp -implicitDefEqProofs (disch := (first | omega | (simp only [lenB, MB.cells_len, N1.cells_len, Rf.cells_len, flat8_len, flatU_len, Tr.row_len, TOp.cells_len, flat17_len, nI_len] <;> omega) | fail)) only [admQ, lenB, MB.cells_len, N1.cells_len, Rf.cells_len, flat8_len, flatU_len, Tr.row_len, TOp.cells_len, flat17_len, nI_len, AK.cls, implies_true, ↓reduceIte, reduceCtorEq, if_true, if_false, Nat.reduceAdd, Nat.reduceEqDiff, Nat.reduceMod, Nat.reduceLT, Nat.reduceLeDiff, Nat.reduceSub, Nat.reduceMul, Nat.reduceBEq, Int.reduceAdd, Int.reduceSub, Int.reduceMul, Int.reduceNeg, Int.reduceLT, Int.reduceLE, Int.reduceToNat, Int.reduceEq, Int.reduceBEq, rn4, rp4, rn5, rp5, rn6, rp6, rn7, rp7, rn8, rp8, rn9, rp9, rn10, rp10, rn11, rp11, rn12, rp12, ei, ej, nI_len, rf_zero, op_zero, op_setk, op_setn, op_setr, op_setp, take_flat8, opz_eq, fillknr, fillkn, fillk, fillnr, fillkpr]
      refine (ans_lawref _ m12).mono ?_
      rintro _ m13 ⟨rfl, g13⟩
      have n13 := g13.own0 n12
      have p13 := g13.own0 p12
      have k13 := k12.trans g13
      have rn13 := rowOf_own n13
      have rp13 := rowOf_own p13
      simp -implicitDefEqProofs (disch := (first | omega | (simp only [lenB, MB.cells_len, N1.cells_len, Rf.cells_len, flat8_len, flatU_len, Tr.row_len, TOp.cells_len, flat17_len, nI_len] <;> omega) | fail)) only [admQ, lenB, MB.cells_len, N1.cells_len, Rf.cells_len, flat8_len, flatU_len, Tr.row_len, TOp.cells_len, flat17_len, nI_len, AK.cls, implies_true, ↓reduceIte, reduceCtorEq, if_true, if_false, Nat.reduceAdd, Nat.reduceEqDiff, Nat.reduceMod, Nat.reduceLT, Nat.reduceLeDiff, Nat.reduceSub, Nat.reduceMul, Nat.reduceBEq, Int.reduceAdd, Int.reduceSub, Int.reduceMul, Int.reduceNeg, Int.reduceLT, Int.reduceLE, Int.reduceToNat, Int.reduceEq, Int.reduceBEq, rn4, rp4, rn5, rp5, rn6, rp6, rn7, rp7, rn8, rp8, rn9, rp9, rn10, rp10, rn11, rp11, rn12, rp12, rn13, rp13, ei, ej, nI_len, rf_zero, op_zero, op_setk, op_setn, op_setr, op_setp, take_flat8, opz_eq, fillknr, fillkn, fillk, fillnr, fillkpr]
      refine (ans_lawref _ m13).mono ?_
      rintro _ m14 ⟨rfl, g14⟩
      have n14 := g14.own0 n13
      have p14 := g14.own0 p13
      have k14 := k13.trans g14
      have rn14 := rowOf_own n14
      have rp14 := rowOf_own p14
      simp -implicitDefEqProofs (disch := (first | omega | (simp only [lenB, MB.cells_len, N1.cells_len, Rf.cells_len, flat8_len, flatU_len, Tr.row_len, TOp.cells_len, flat17_len, nI_len] <;> omega) | fail)) only [admQ, lenB, MB.cells_len, N1.cells_len, Rf.cells_len, flat8_len, flatU_len, Tr.row_len, TOp.cells_len, flat17_len, nI_len, AK.cls, implies_true, ↓reduceIte, reduceCtorEq, if_true, if_false, Nat.reduceAdd, Nat.reduceEqDiff, Nat.reduceMod, Nat.reduceLT, Nat.reduceLeDiff, Nat.reduceSub, Nat.reduceMul, Nat.reduceBEq, Int.reduceAdd, Int.reduceSub, Int.reduceMul, Int.reduceNeg, Int.reduceLT, Int.reduceLE, Int.reduceToNat, Int.reduceEq, Int.reduceBEq, rn4, rp4, rn5, rp5, rn6, rp6, rn7, rp7, rn8, rp8, rn9, rp9, rn10, rp10, rn11, rp11, rn12, rp12, rn13, rp13, rn14, rp14, ei, ej, nI_len, rf_zero, op_zero, op_setk, op_setn, op_setr, op_setp, take_flat8, opz_eq, fillknr, fillkn, fillk, fillnr, fillkpr]
      refine (ans_lawref _ m14).mono ?_
      rintro _ m15 ⟨rfl, g15⟩
      have n15 := g15.own0 n14
      have p15 := g15.own0 p14
      have k15 := k14.trans g15
      have rn15 := rowOf_own n15
      have rp15 := rowOf_own p15
      simp -implicitDefEqProofs (disch := (first | omega | (simp only [lenB, MB.cells_len, N1.cells_len, Rf.cells_len, flat8_len, flatU_len, Tr.row_len, TOp.cells_len, flat17_len, nI_len] <;> omega) | fail)) only [admQ, lenB, MB.cells_len, N1.cells_len, Rf.cells_len, flat8_len, flatU_len, Tr.row_len, TOp.cells_len, flat17_len, nI_len, AK.cls, implies_true, ↓reduceIte, reduceCtorEq, if_true, if_false, Nat.reduceAdd, Nat.reduceEqDiff, Nat.reduceMod, Nat.reduceLT, Nat.reduceLeDiff, Nat.reduceSub, Nat.reduceMul, Nat.reduceBEq, Int.reduceAdd, Int.reduceSub, Int.reduceMul, Int.reduceNeg, Int.reduceLT, Int.reduceLE, Int.reduceToNat, Int.reduceEq, Int.reduceBEq, rn4, rp4, rn5, rp5, rn6, rp6, rn7, rp7, rn8, rp8, rn9, rp9, rn10, rp10, rn11, rp11, rn12, rp12, rn13, rp13, rn14, rp14, rn15, rp15, ei, ej, nI_len, rf_zero, op_zero, op_setk, op_setn, op_setr, op_setp, take_flat8, opz_eq, fill17, fillknr, fillkn, fillk, fillnr, fillkpr]
      generalize hO : ([⟨0, 9, refOf 7, fun _ => Rf.zero⟩, ⟨3, vi, refOf vj, fun _ => Rf.zero⟩, ⟨3, 2, refOf 8, fun _ => Rf.zero⟩, ⟨3, 0, refOf vj, fun _ => Rf.zero⟩, ⟨3, 0, refOf 9, fun _ => Rf.zero⟩, ⟨0, vi, refOf vj, fun _ => Rf.zero⟩, ⟨2, vj, Rf.zero, fun _ => Rf.zero⟩, ⟨1, vi, Rf.zero, fun _ => Rf.zero⟩, ⟨4, vi, refOf vj, pg⟩, ⟨0, 10, refOf 11, fun _ => Rf.zero⟩, ⟨1, 9, Rf.zero, fun _ => Rf.zero⟩, ⟨1, 10, Rf.zero, fun _ => Rf.zero⟩, ⟨3, 0, refOf 5, fun _ => Rf.zero⟩, ⟨3, 0, Rf.zero, fun _ => Rf.zero⟩, ⟨9, 0, Rf.zero, fun _ => Rf.zero⟩, ⟨4, vj, refOf 3, pg⟩, ⟨4, 0, refOf 4, fun _ => Rf.zero⟩] : List TOp) = O at *
      have hol : O.length = 17 := by rw [← hO]; rfl
      clear hO
      have hR : RdO (m15 ++ [.row (flatOf TOp.cells O) false]) (.sl m15.length 0 17 17 0) O := .inr ⟨m15.length, 17, [], by rw [hol], by rw [List.append_nil]; exact rowOf_own (by rw [own_app_at0, own_c0])⟩
      have n16 := own_app n15 [.row (flatOf TOp.cells O) false]
      have k16 := k15.trans (.app [] m15 [.row (flatOf TOp.cells O) false])
      generalize m15 ++ [Blk.row (flatOf TOp.cells O) false] = m16 at *
      generalize m15.length = z at *
      refine (ans_treeruns hR).mono ?_
      rintro _ m17 ⟨rfl, g17⟩
      simp -implicitDefEqProofs (disch := (first | omega | (simp only [lenB, MB.cells_len, N1.cells_len, Rf.cells_len, flat8_len, flatU_len, Tr.row_len, TOp.cells_len, flat17_len, nI_len] <;> omega) | fail)) only [admQ, lenB, MB.cells_len, N1.cells_len, Rf.cells_len, flat8_len, flatU_len, Tr.row_len, TOp.cells_len, flat17_len, nI_len, aFill, AK.cls, implies_true, ↓reduceIte, reduceCtorEq, if_true, if_false, Nat.reduceAdd, Nat.reduceEqDiff, Nat.reduceMod, Nat.reduceLT, Nat.reduceLeDiff, Nat.reduceSub, Nat.reduceMul, Nat.reduceBEq, Int.reduceAdd, Int.reduceSub, Int.reduceMul, Int.reduceNeg, Int.reduceLT, Int.reduceLE, Int.reduceToNat, Int.reduceEq, Int.reduceBEq, Bool.not_true]
      refine (ans_acc (hR.kept0 g17)).mono ?_
      rintro _ m18 ⟨rfl, g18⟩
      have g168 := g17.trans g18
      simp -implicitDefEqProofs (disch := (first | omega | (simp only [lenB, MB.cells_len, N1.cells_len, Rf.cells_len, flat8_len, flatU_len, Tr.row_len, TOp.cells_len, flat17_len, nI_len] <;> omega) | fail)) only [admQ, lenB, MB.cells_len, N1.cells_len, Rf.cells_len, flat8_len, flatU_len, Tr.row_len, TOp.cells_len, flat17_len, nI_len, aFill, AK.cls, implies_true, ↓reduceIte, reduceCtorEq, if_true, if_false, Nat.reduceAdd, Nat.reduceEqDiff, Nat.reduceMod, Nat.reduceLT, Nat.reduceLeDiff, Nat.reduceSub, Nat.reduceMul, Nat.reduceBEq, Int.reduceAdd, Int.reduceSub, Int.reduceMul, Int.reduceNeg, Int.reduceLT, Int.reduceLE, Int.reduceToNat, Int.reduceEq, Int.reduceBEq, Bool.not_true]
      refine (ans_holds (hR.kept0 g168)).mono ?_
      rintro _ m19 ⟨rfl, g19⟩
      have g169 := g168.trans g19
      have rn19 := rowOf_own (g169.own0 n16)
      simp -implicitDefEqProofs (disch := (first | omega | (simp only [lenB, MB.cells_len, N1.cells_len, Rf.cells_len, flat8_len, flatU_len, Tr.row_len, TOp.cells_len, flat17_len, nI_len] <;> omega) | fail)) only [admQ, lenB, MB.cells_len, N1.cells_len, Rf.cells_len, flat8_len, flatU_len, Tr.row_len, TOp.cells_len, flat17_len, nI_len, aFill, AK.cls, implies_true, ↓reduceIte, reduceCtorEq, if_true, if_false, Nat.reduceAdd, Nat.reduceEqDiff, Nat.reduceMod, Nat.reduceLT, Nat.reduceLeDiff, Nat.reduceSub, Nat.reduceMul, Nat.reduceBEq, Int.reduceAdd, Int.reduceSub, Int.reduceMul, Int.reduceNeg, Int.reduceLT, Int.reduceLE, Int.reduceToNat, Int.reduceEq, Int.reduceBEq, Bool.not_true, rn19, ej, nI_len]
      refine (ans_back (hR.kept0 g169) vj).mono ?_
      rintro _ m20 ⟨rfl, g20⟩
      have g1620 := g169.trans g20
      simp -implicitDefEqProofs (disch := (first | omega | (simp only [lenB, MB.cells_len, N1.cells_len, Rf.cells_len, flat8_len, flatU_len, Tr.row_len, TOp.cells_len, flat17_len, nI_len] <;> omega) | fail)) only [admQ, lenB, MB.cells_len, N1.cells_len, Rf.cells_len, flat8_len, flatU_len, Tr.row_len, TOp.cells_len, flat17_len, nI_len, aFill, AK.cls, implies_true, ↓reduceIte, reduceCtorEq, if_true, if_false, Nat.reduceAdd, Nat.reduceEqDiff, Nat.reduceMod, Nat.reduceLT, Nat.reduceLeDiff, Nat.reduceSub, Nat.reduceMul, Nat.reduceBEq, Int.reduceAdd, Int.reduceSub, Int.reduceMul, Int.reduceNeg, Int.reduceLT, Int.reduceLE, Int.reduceToNat, Int.reduceEq, Int.reduceBEq, Bool.not_true]
      refine (ans_pick (i : Int) 17 (by decide) m20).mono ?_
      rintro _ _ ⟨rfl, rfl⟩
      rename_i m20
      have hpk := pickI_in (k := (i : Int)) (show (0 : Int) < 17 by decide)
      obtain ⟨u, hu⟩ := Int.eq_ofNat_of_zero_le hpk.1
      rw [hu] at hpk ⊢
      have hu17 : u < 17 := by omega
      simp -implicitDefEqProofs (disch := (first | omega | (simp only [lenB, MB.cells_len, N1.cells_len, Rf.cells_len, flat8_len, flatU_len, Tr.row_len, TOp.cells_len, flat17_len, nI_len] <;> omega) | fail)) only [admQ, lenB, MB.cells_len, N1.cells_len, Rf.cells_len, flat8_len, flatU_len, Tr.row_len, TOp.cells_len, flat17_len, nI_len, aFill, AK.cls, implies_true, ↓reduceIte, reduceCtorEq, if_true, if_false, Nat.reduceAdd, Nat.reduceEqDiff, Nat.reduceMod, Nat.reduceLT, Nat.reduceLeDiff, Nat.reduceSub, Nat.reduceMul, Nat.reduceBEq, Int.reduceAdd, Int.reduceSub, Int.reduceMul, Int.reduceNeg, Int.reduceLT, Int.reduceLE, Int.reduceToNat, Int.reduceEq, Int.reduceBEq]
      refine (ans_back ((hR.kept0 g1620).take (show u ≤ 17 by omega)) 3).mono ?_
      rintro _ m21 ⟨rfl, g21⟩
      simp -implicitDefEqProofs (disch := (first | omega | (simp only [lenB, MB.cells_len, N1.cells_len, Rf.cells_len, flat8_len, flatU_len, Tr.row_len, TOp.cells_len, flat17_len, nI_len] <;> omega) | fail)) only [admQ, lenB, MB.cells_len, N1.cells_len, Rf.cells_len, flat8_len, flatU_len, Tr.row_len, TOp.cells_len, flat17_len, nI_len, aFill, AK.cls, implies_true, ↓reduceIte, reduceCtorEq, if_true, if_false, Nat.reduceAdd, Nat.reduceEqDiff, Nat.reduceMod, Nat.reduceLT, Nat.reduceLeDiff, Nat.reduceSub, Nat.reduceMul, Nat.reduceBEq, Int.reduceAdd, Int.reduceSub, Int.reduceMul, Int.reduceNeg, Int.reduceLT, Int.reduceLE, Int.reduceToNat, Int.reduceEq, Int.reduceBEq, Bool.not_true]
      exact hX2 (j + 1) _ _ rfl (by omega) ⟨by omega, k16.trans (g1620.trans g21), (g1620.trans g21).own0 n16⟩
    · obtain rfl : j = 12 := by omega
      simp -implicitDefEqProofs (disch := (first | omega | (simp only [lenB, MB.cells_len, N1.cells_len, Rf.cells_len, flat8_len, flatU_len, Tr.row_len, TOp.cells_len, flat17_len, nI_len] <;> omega) | fail)) only [admQ, lenB, MB.cells_len, N1.cells_len, Rf.cells_len, flat8_len, flatU_len, Tr.row_len, TOp.cells_len, flat17_len, nI_len, aFill, AK.cls, implies_true, ↓reduceIte, reduceCtorEq, if_true, if_false, Nat.reduceAdd, Nat.reduceEqDiff, Nat.reduceMod, Nat.reduceLT, Nat.reduceLeDiff, Nat.reduceSub, Nat.reduceMul, Nat.reduceBEq, Int.reduceAdd, Int.reduceSub, Int.reduceMul, Int.reduceNeg, Int.reduceLT, Int.reduceLE, Int.reduceToNat, Int.reduceEq, Int.reduceBEq, dec_t, dec_f]
      exact hX (i + 1) _ _ rfl (by omega) ⟨by omega, k1, n1⟩
  · obtain rfl : i = 12 := by omega
    simp -implicitDefEqProofs (disch := (first | omega | (simp only [lenB, MB.cells_len, N1.cells_len, Rf.cells_len, flat8_len, flatU_len, Tr.row_len, TOp.cells_len, flat17_len, nI_len] <;> omega) | fail)) only [admQ, lenB, MB.cells_len, N1.cells_len, Rf.cells_len, flat8_len, flatU_len, Tr.row_len, TOp.cells_len, flat17_len, nI_len, aFill, AK.cls, implies_true, ↓reduceIte, reduceCtorEq, if_true, if_false, Nat.reduceAdd, Nat.reduceEqDiff, Nat.reduceMod, Nat.reduceLT, Nat.reduceLeDiff, Nat.reduceSub, Nat.reduceMul, Nat.reduceBEq, Int.reduceAdd, Int.reduceSub, Int.reduceMul, Int.reduceNeg, Int.reduceLT, Int.reduceLE, Int.reduceToNat, Int.reduceEq, Int.reduceBEq, dec_t, dec_f]
    refine (ans_trworks m1).mono ?_
    rintro _ m2 ⟨rfl, k2⟩
    simp -implicitDefEqProofs (disch := (first | omega | (simp only [lenB, MB.cells_len, N1.cells_len, Rf.cells_len, flat8_len, flatU_len, Tr.row_len, TOp.cells_len, flat17_len, nI_len] <;> omega) | fail)) only [admQ, lenB, MB.cells_len, N1.cells_len, Rf.cells_len, flat8_len, flatU_len, Tr.row_len, TOp.cells_len, flat17_len, nI_len, aFill, AK.cls, implies_true, ↓reduceIte, reduceCtorEq, if_true, if_false, Nat.reduceAdd, Nat.reduceEqDiff, Nat.reduceMod, Nat.reduceLT, Nat.reduceLeDiff, Nat.reduceSub, Nat.reduceMul, Nat.reduceBEq, Int.reduceAdd, Int.reduceSub, Int.reduceMul, Int.reduceNeg, Int.reduceLT, Int.reduceLE, Int.reduceToNat, Int.reduceEq, Int.reduceBEq]
    exact k1.trans k2
end Go.Proofs.Ytmklcealhjmlgaa
end
