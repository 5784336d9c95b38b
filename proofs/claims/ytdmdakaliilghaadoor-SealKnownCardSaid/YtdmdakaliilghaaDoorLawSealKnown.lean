/- The row of the law SealKnown, and its card. -/
import Derived.Test.YtdmdakaliilghaaDoorRows
import Derived.Test.YtdmdakaliilghaaDoorTie
import Derived.Test.YtdmdakaliilghaaDoorCards
import Derived.Test.YtdmdakaliilghaaDoorM4
import Derived.Lay
import Derived.LaidLaws
import Derived.LaidHandle
import Derived.Handed
import Derived.SevenTiedAt
import Derived.Stop.Joined
namespace Go.Proofs.YtdmdakaliilghaaDoor.sealKnown
open Go.ChangeShapes Go.WideShapes Go.ChangeAt Go.RowKit
open Go.ChangeMaps (open_string shut_string)
set_option linter.unusedVariables false
abbrev laid : List (String × DataW Unit) := [("rill/sha.k", Rows.laid_rill_sha_k)]
theorem own : ownKnob Tryd.prog.godebug = none := by kernel_rfl
theorem laidOut : laidOutB Tryd.prog = true := by kernel_rfl
def kZ : List Int := kT.map fun w => (w.toNat : Int)
theorem laid_eq : (Rows.laid_rill_sha_k : DataW Unit) = .agg (kZ.map fun z => .lit (.int .u32 z)) := by kernel_rfl
theorem start {W : World} (h : laidMetH Tryd.prog laid W) : ∃ m ρ, Adm.St m ρ W ∧ Adm.rowOf m 0 = some (wds kT) := by
  have h' : laidMet Tryd.prog laid W := by rw [MakeChecks.laidMetH_plain _ _ _ (by kernel_rfl)] at h; exact h
  obtain ⟨ps, ⟨g, t, cs, fuel, p, q, hg, ht, hv, htr, -, -⟩, -, -⟩ := h'
  obtain rfl : g = 1 := Option.some.inj (hg.symm.trans (by kernel_rfl))
  obtain rfl : t = 102 := Option.some.inj (ht.symm.trans (by kernel_rfl))
  rw [laid_eq] at htr
  obtain ⟨e, fz, hb, hc⟩ := Adm.laid_block (N := 64) hg hv Tryd.underlying102 Tryd.underlying86 (by kernel_rfl) (by kernel_rfl) htr
  obtain ⟨ρ, hs⟩ := Adm.St.laid1 (g0 := 1) (g1 := 0) rfl (by decide) hb hc
  exact ⟨_, ρ, hs, by simp [Adm.rowOf, kZ, wds]⟩
set_option maxRecDepth 100000 in
theorem lifted (os : Os) (started : os.Started) (H : Type) (enc : TypeId × Value → H) :
    ReturnsInHanded {} Tryd.checked os 5 .any (fun w args => (Rows.sealKnownSpec.pre enc Tryd.prog Tryd.f5 [] false w args ∧ laidMetH Tryd.prog laid w) ∧ sizedMet enc Tryd.prog Tryd.f5 (OpenSpec.ofChange Rows.sealKnownSpec) false w args)
      (Rows.sealKnownSpec.post enc Tryd.prog Tryd.f5 false true false false) := by
  refine returnsInHanded_of_change_and (C := Tryd.checked) (X := fun w _ => laidMetH Tryd.prog laid w) (fun _ _ _ hh h => h.of_heap hh) own started (by kernel_rfl) Tryd.func5
    (ChangeSpec.witness_shaped (enc := enc) (C := Tryd.checked) (os := os) (X := fun w _ => laidMetH Tryd.prog laid w) false (World.laidAll Tryd.prog os laid) #[] 8 (World.laidAll_os _ _ _)
      (World.shaped_of_ZipB (by kernel_rfl) (by kernel_rfl)) (by kernel_rfl) (by kernel_rfl) (by kernel_rfl)
      (by rw [MakeChecks.laidMetH_plain _ _ _ (by kernel_rfl)]; exact laidMet_laidAll _ (by kernel_rfl) (by kernel_rfl))) ?_
  intro W base args ds gs before hval0 hW _ _ hL _
  have hW' := hW
  obtain ⟨p, q, hA0, hV, rfl, hfz, hnd⟩ := hW
  have hA : DataW.TrodAll enc Tryd.prog W 0 (fun _ => true) true Tryd.f5.params.toList args.toList ds p := hA0
  rw [Tryd.params5] at hA
  obtain ⟨rfl, rfl, rfl⟩ := trodAll_none hA
  obtain ⟨rfl, rfl⟩ := trodVars_none hV
  obtain ⟨m, ρ, hs, hK⟩ := start hL
  refine (((ans_SealKnown hK)).calls hs .nil).mono fun e W' ⟨he, bel⟩ => ?_
  subst he
  exact ⟨_, rfl, _, _, _, [], _, [], hW', trodAll_mk1 (shut_bool Tryd.underlying4 _), trodAll_mk0, rfl, bel.frame _, fun h => by cases h⟩
theorem over : Rows.sealKnownRow.holds Tryd.pinned (OpenSpec.ofChange Rows.sealKnownSpec) :=
  OpenClaim.holds_of_wide 5 Tryd.f5 rfl rfl rfl rfl rfl rfl rfl ⟨rfl, rfl, rfl, rfl, rfl⟩ rfl rfl rfl rfl rfl (by kernel_rfl) Tryd.func5 (by kernel_rfl)
    (of_decide_eq_true (by kernel_rfl)) (by unfold Func.isWrapper; first | (rw [if_pos (by decide +kernel)]; kernel_rfl) | (rw [if_neg (by decide +kernel)]; exact ⟨rfl, rfl⟩))
    (fun os started H enc _ => lifted os started H enc)
theorem proved : Rows.SealKnownSaid := over
theorem card : Rows.SealKnownCardSaid :=
  Claim7.holds_tied_plain_at .later [] [.data] true (true, "18134bf5994e1861323edf7644ed147bcb5d24620a7c51293adc2f83699a7c2c") false
    over (fun _ h => by cases h) (by kernel_rfl) (fun _ h => by cases h) sealKnown_row_tie rfl ⟨rfl, rfl⟩ (by kernel_rfl) rfl
    (fun f fn hf hfn => by
      obtain rfl : f = 5 := Option.some.inj ((show Tryd.prog.funcNamed "rill/rilllaw05.SealKnown" = some 5 by kernel_rfl).symm.trans hf) |>.symm
      obtain rfl : fn = Tryd.f5 := (Option.some.inj (Tryd.func5.symm.trans hfn)).symm
      exact ⟨by kernel_rfl, fun j t ht => by
        rw [Tryd.params5] at ht
        simp at ht⟩)
    (by kernel_rfl)
#print axioms card
end Go.Proofs.YtdmdakaliilghaaDoor.sealKnown
namespace Go.Proofs.YtdmdakaliilghaaDoor
/-- The card, under a short name, for the claim. -/
theorem sealKnown_holds : Rows.SealKnownCardSaid := sealKnown.card
end Go.Proofs.YtdmdakaliilghaaDoor
