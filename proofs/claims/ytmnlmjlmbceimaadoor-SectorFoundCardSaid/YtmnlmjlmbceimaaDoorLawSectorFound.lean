/- The row of the law SectorFound, and its card. -/
import Derived.Test.YtmnlmjlmbceimaaDoorRows
import Derived.Test.YtmnlmjlmbceimaaDoorTie
import Derived.Test.YtmnlmjlmbceimaaDoorCards
import Derived.Test.YtmnlmjlmbceimaaDoorP5
import Derived.Lay
import Derived.LaidLaws
import Derived.LaidHandle
import Derived.Handed
import Derived.SevenTiedAt
import Derived.Stop.Joined
namespace Go.Proofs.YtmnlmjlmbceimaaDoor.sectorFound
open Go.ChangeShapes Go.WideShapes Go.ChangeAt Go.RowKit
open Go.ChangeMaps (open_string shut_string)
set_option linter.unusedVariables false
abbrev laid : List (String × DataW Unit) := [("rill/sha.k", Rows.laid_rill_sha_k)]
theorem own : ownKnob Tryd.prog.godebug = none := by kernel_rfl
theorem laidOut : laidOutB Tryd.prog = true := by kernel_rfl
def kZ : List Int := kT.map fun w => (w.toNat : Int)
theorem laid_eq_sha : (Rows.laid_rill_sha_k : DataW Unit) = .agg (kZ.map fun z => .lit (.int .u32 z)) := by kernel_rfl
theorem start {W : World} (h : laidMetH Tryd.prog laid W) : ∃ m ρ, Adm.St m ρ W ∧ (∀ e, Adm.rowOf (m ++ e) 0 = some (wds kT)) := by
  have h' : laidMet Tryd.prog laid W := by rw [MakeChecks.laidMetH_plain _ _ _ (by kernel_rfl)] at h; exact h
  obtain ⟨ps, ⟨g, t, cs, fuel, p, q, hg, ht, hv, htr, -, -⟩, -, -⟩ := h'
  obtain rfl : g = 0 := Option.some.inj (hg.symm.trans (by kernel_rfl))
  obtain rfl : t = 101 := Option.some.inj (ht.symm.trans (by kernel_rfl))
  rw [laid_eq_sha] at htr
  obtain ⟨e, fz, hb, hc⟩ := Adm.laid_block (N := 64) hg hv Tryd.underlying101 Tryd.underlying95 (by kernel_rfl) (by kernel_rfl) htr
  obtain ⟨ρ, hs⟩ := Adm.St.laid0 (g0 := 0) rfl hb hc
  exact ⟨_, ρ, hs, fun e => by simp [Adm.rowOf, kZ, wds]⟩
set_option maxRecDepth 100000 in
theorem lifted (os : Os) (started : os.Started) (H : Type) (enc : TypeId × Value → H) :
    ReturnsInHanded {} Tryd.checked os 5 .any (fun w args => (Rows.sectorFoundSpec.pre enc Tryd.prog Tryd.f5 [] false w args ∧ laidMetH Tryd.prog laid w) ∧ sizedMet enc Tryd.prog Tryd.f5 (OpenSpec.ofChange Rows.sectorFoundSpec) false w args)
      (Rows.sectorFoundSpec.post enc Tryd.prog Tryd.f5 false true false false) := by
  refine returnsInHanded_of_change_and (C := Tryd.checked) (X := fun w _ => laidMetH Tryd.prog laid w) (fun _ _ _ hh h => h.of_heap hh) own started (by kernel_rfl) Tryd.func5
    (ChangeSpec.witness_shaped (enc := enc) (C := Tryd.checked) (os := os) (X := fun w _ => laidMetH Tryd.prog laid w) false (World.laidAll Tryd.prog os laid) #[.slice none 0 0, .agg #[.int .i64 0, .int .i64 0], .slice none 0 0] 8 (World.laidAll_os _ _ _)
      (World.shaped_of_ZipB (by kernel_rfl) (by kernel_rfl)) (by kernel_rfl) (by kernel_rfl) (by kernel_rfl)
      (by rw [MakeChecks.laidMetH_plain _ _ _ (by kernel_rfl)]; exact laidMet_laidAll _ (by kernel_rfl) (by kernel_rfl))) ?_
  intro W base args ds gs before hval0 hW _ _ hL _
  have hval : ∀ (j : Nat) t v, Tryd.f5.params[j]? = some t → args[j]? = some v → Value.okWide Tryd.prog W .any base t v := hval0
  have hW' := hW
  obtain ⟨p, q, hA0, hV, rfl, hfz, hnd⟩ := hW
  have hA : DataW.TrodAll enc Tryd.prog W 0 (fun _ => true) true Tryd.f5.params.toList args.toList ds p := hA0
  rw [Tryd.params5] at hA hval
  obtain ⟨v0, vs0, d0, ds0, p0, q0, hargs, rfl, rfl, h0, r0⟩ := trodAll_cons hA
  obtain ⟨v1, vs1, d1, ds1, p1, q1, rfl, rfl, rfl, h1, r1⟩ := trodAll_cons r0
  obtain ⟨v2, vs2, d2, ds2, p2, q2, rfl, rfl, rfl, h2, r2⟩ := trodAll_cons r1
  obtain ⟨rfl, rfl, rfl⟩ := trodAll_nil r2
  obtain rfl : args = #[v0, v1, v2] := by cases args; simp_all
  obtain ⟨rfl, rfl⟩ := trodVars_none hV
  have lt0 : ∀ x ∈ p0, x.block < W.heap.size := by obtain ⟨m, hm⟩ := h0; exact DataW.trod_lt m _ _ _ hm
  have k0 := h0
  have lt1 : ∀ x ∈ p1, x.block < W.heap.size := by obtain ⟨m, hm⟩ := h1; exact DataW.trod_lt m _ _ _ hm
  have k1 := h1
  have lt2 : ∀ x ∈ p2, x.block < W.heap.size := by obtain ⟨m, hm⟩ := h2; exact DataW.trod_lt m _ _ _ hm
  have k2 := h2
  obtain ⟨m, ρ, hs, hK⟩ := start hL
  obtain ⟨g0, o0⟩ := Adm.Opens.recs (d0 := 9) (ks := [.i .i64, .i .i64, .i .i64, .i .i64, .b]) Tryd.underlying46 (by kernel_rfl) (by kernel_rfl) (by decide) (hval 0 46 v0 rfl rfl) h0
  obtain ⟨g1, o1⟩ := Adm.Opens.cells (d0 := 9) (ks := [.i .i64, .i .i64]) (by kernel_rfl) (by kernel_rfl) (hval 1 43 v1 rfl rfl) h1
  obtain ⟨c1_1, c1_2, o1⟩ := Adm.Opens.ii o1
  obtain ⟨g2, w2, o2⟩ := Adm.Opens.ints Tryd.underlying22 Tryd.underlying5 (by kernel_rfl) (hval 2 22 v2 rfl rfl) h2
  replace o2 := Adm.Opens.bytes w2 o2
  obtain ⟨e0, ρ0, x0, s0, u0, y0, z0⟩ := o0 (m) _ hs
  obtain ⟨e1, ρ1, x1, s1, u1, y1, z1⟩ := o1 (m ++ e0) _ s0
  obtain ⟨e2, ρ2, x2, s2, u2, y2, z2⟩ := o2 (m ++ e0 ++ e1) _ s1
  have hQ0 := z0 (e1 ++ e2)
  have hQ1 := z1 (e2)
  have hQ2 := z2 ([])
  simp only [List.append_nil, List.append_assoc] at hQ0 s0 hQ1 s1 hQ2 s2
  obtain rfl := hQ1
  clear hA0 hval0
  refine ((ans_SectorFound (hK _) (IsRecs.secs hQ0).choose_spec.2 hQ2).calls s2 (.cons ((y0.mono u1).mono u2) (.cons (y1.mono u2) (.cons y2 .nil)))).mono fun e W' ⟨he, bel⟩ => ?_
  subst he
  exact ⟨_, rfl, _, _, _, [], _, [], hW', trodAll_mk1 (shut_bool Tryd.underlying4 _), (trodAll_cons_mk (Below.trod laidOut (by kernel_rfl) (of_decide_eq_true (by kernel_rfl)) k0 bel lt0) (trodAll_cons_mk (Below.trod laidOut (by kernel_rfl) (of_decide_eq_true (by kernel_rfl)) k1 bel lt1) (trodAll_cons_mk (Below.trod laidOut (by kernel_rfl) (of_decide_eq_true (by kernel_rfl)) k2 bel lt2) trodAll_mk0))), rfl, bel.frame _, fun h => by cases h⟩
theorem over : Rows.sectorFoundRow.holds Tryd.pinned (OpenSpec.ofChange Rows.sectorFoundSpec) :=
  OpenClaim.holds_of_wide 5 Tryd.f5 rfl rfl rfl rfl rfl rfl rfl ⟨rfl, rfl, rfl, rfl, rfl⟩ rfl rfl rfl rfl rfl (by kernel_rfl) Tryd.func5 (by kernel_rfl)
    (of_decide_eq_true (by kernel_rfl)) (by unfold Func.isWrapper; first | (rw [if_pos (by decide +kernel)]; kernel_rfl) | (rw [if_neg (by decide +kernel)]; exact ⟨rfl, rfl⟩))
    (fun os started H enc _ => lifted os started H enc)
theorem proved : Rows.SectorFoundSaid := over
theorem card : Rows.SectorFoundCardSaid :=
  Claim7.holds_tied_plain_at .later [] [.data] true (true, "0c7e55e46b35a2e92a5924e17fcfe984d3d7db7983f57e23da153d4e376affb1") false
    over (fun _ h => by cases h) (by kernel_rfl) (fun _ h => by cases h) sectorFound_row_tie rfl ⟨rfl, rfl⟩ (by kernel_rfl) rfl
    (fun f fn hf hfn => by
      obtain rfl : f = 5 := Option.some.inj ((show Tryd.prog.funcNamed "rill/rilllaw11.SectorFound" = some 5 by kernel_rfl).symm.trans hf) |>.symm
      obtain rfl : fn = Tryd.f5 := (Option.some.inj (Tryd.func5.symm.trans hfn)).symm
      refine ⟨by kernel_rfl, fun j t ht => ?_⟩
      rw [Tryd.params5] at ht
      rcases j with _ | _ | _ | _ <;> simp at ht <;> subst ht <;> kernel_rfl)
    (by kernel_rfl)
#print axioms card
end Go.Proofs.YtmnlmjlmbceimaaDoor.sectorFound
namespace Go.Proofs.YtmnlmjlmbceimaaDoor
/-- The card, under a short name, for the claim. -/
theorem sectorFound_holds : Rows.SectorFoundCardSaid := sectorFound.card
end Go.Proofs.YtmnlmjlmbceimaaDoor
