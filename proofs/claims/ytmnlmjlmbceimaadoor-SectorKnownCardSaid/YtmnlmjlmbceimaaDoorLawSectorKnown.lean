/- The row of the law SectorKnown, and its card. -/
import Derived.Test.YtmnlmjlmbceimaaDoorRows
import Derived.Test.YtmnlmjlmbceimaaDoorTie
import Derived.Test.YtmnlmjlmbceimaaDoorCards
import Derived.Test.YtmnlmjlmbceimaaDoorP5
import Derived.Lay
import Derived.LaidLaws
import Derived.LaidHandle
import Derived.Handed
import Derived.SevenTiedAt
import Derived.Stop.Joined
namespace Go.Proofs.YtmnlmjlmbceimaaDoor.sectorKnown
open Go.ChangeShapes Go.WideShapes Go.ChangeAt Go.RowKit
open Go.ChangeMaps (open_string shut_string)
set_option linter.unusedVariables false
abbrev laid : List (String × DataW Unit) := [("rill/sha.k", Rows.laid_rill_sha_k)]
theorem own : ownKnob Tryd.prog.godebug = none := by kernel_rfl
theorem laidOut : laidOutB Tryd.prog = true := by kernel_rfl
def kZ : List Int := kT.map fun w => (w.toNat : Int)
theorem laid_eq_sha : (Rows.laid_rill_sha_k : DataW Unit) = .agg (kZ.map fun z => .lit (.int .u32 z)) := by kernel_rfl
theorem start {W : World} (h : laidMetH Tryd.prog laid W) : ∃ m ρ, Adm.St m ρ W ∧ (∀ e, Adm.rowOf (m ++ e) 0 = some (wds kT)) := by
  have h' : laidMet Tryd.prog laid W := by rw [MakeChecks.laidMetH_plain _ _ _ (by kernel_rfl)] at h; exact h
  obtain ⟨ps, ⟨g, t, cs, fuel, p, q, hg, ht, hv, htr, -, -⟩, -, -⟩ := h'
  obtain rfl : g = 0 := Option.some.inj (hg.symm.trans (by kernel_rfl))
  obtain rfl : t = 101 := Option.some.inj (ht.symm.trans (by kernel_rfl))
  rw [laid_eq_sha] at htr
  obtain ⟨e, fz, hb, hc⟩ := Adm.laid_block (N := 64) hg hv Tryd.underlying101 Tryd.underlying95 (by kernel_rfl) (by kernel_rfl) htr
  obtain ⟨ρ, hs⟩ := Adm.St.laid0 (g0 := 0) rfl hb hc
  exact ⟨_, ρ, hs, fun e => by simp [Adm.rowOf, kZ, wds]⟩
set_option maxRecDepth 100000 in
theorem lifted (os : Os) (started : os.Started) (H : Type) (enc : TypeId × Value → H) :
    ReturnsInHanded {} Tryd.checked os 6 .any (fun w args => (Rows.sectorKnownSpec.pre enc Tryd.prog Tryd.f6 [] false w args ∧ laidMetH Tryd.prog laid w) ∧ sizedMet enc Tryd.prog Tryd.f6 (OpenSpec.ofChange Rows.sectorKnownSpec) false w args)
      (Rows.sectorKnownSpec.post enc Tryd.prog Tryd.f6 false true false false) := by
  refine returnsInHanded_of_change_and (C := Tryd.checked) (X := fun w _ => laidMetH Tryd.prog laid w) (fun _ _ _ hh h => h.of_heap hh) own started (by kernel_rfl) Tryd.func6
    (ChangeSpec.witness_shaped (enc := enc) (C := Tryd.checked) (os := os) (X := fun w _ => laidMetH Tryd.prog laid w) false (World.laidAll Tryd.prog os laid) #[] 8 (World.laidAll_os _ _ _)
      (World.shaped_of_ZipB (by kernel_rfl) (by kernel_rfl)) (by kernel_rfl) (by kernel_rfl) (by kernel_rfl)
      (by rw [MakeChecks.laidMetH_plain _ _ _ (by kernel_rfl)]; exact laidMet_laidAll _ (by kernel_rfl) (by kernel_rfl))) ?_
  intro W base args ds gs before hval0 hW _ _ hL _
  have hval : ∀ (j : Nat) t v, Tryd.f6.params[j]? = some t → args[j]? = some v → Value.okWide Tryd.prog W .any base t v := hval0
  have hW' := hW
  obtain ⟨p, q, hA0, hV, rfl, hfz, hnd⟩ := hW
  have hA : DataW.TrodAll enc Tryd.prog W 0 (fun _ => true) true Tryd.f6.params.toList args.toList ds p := hA0
  rw [Tryd.params6] at hA hval
  obtain ⟨rfl, rfl, rfl⟩ := trodAll_none hA
  obtain ⟨rfl, rfl⟩ := trodVars_none hV
  obtain ⟨m, ρ, hs, hK⟩ := start hL
  clear hA0 hval0
  refine ((ans_SectorKnown (by simpa using hK [])).calls hs .nil).mono fun e W' ⟨he, bel⟩ => ?_
  subst he
  exact ⟨_, rfl, _, _, _, [], _, [], hW', trodAll_mk1 (shut_bool Tryd.underlying4 _), trodAll_mk0, rfl, bel.frame _, fun h => by cases h⟩
theorem over : Rows.sectorKnownRow.holds Tryd.pinned (OpenSpec.ofChange Rows.sectorKnownSpec) :=
  OpenClaim.holds_of_wide 6 Tryd.f6 rfl rfl rfl rfl rfl rfl rfl ⟨rfl, rfl, rfl, rfl, rfl⟩ rfl rfl rfl rfl rfl (by kernel_rfl) Tryd.func6 (by kernel_rfl)
    (of_decide_eq_true (by kernel_rfl)) (by unfold Func.isWrapper; first | (rw [if_pos (by decide +kernel)]; kernel_rfl) | (rw [if_neg (by decide +kernel)]; exact ⟨rfl, rfl⟩))
    (fun os started H enc _ => lifted os started H enc)
theorem proved : Rows.SectorKnownSaid := over
theorem card : Rows.SectorKnownCardSaid :=
  Claim7.holds_tied_plain_at .later [] [.data] true (true, "0c7e55e46b35a2e92a5924e17fcfe984d3d7db7983f57e23da153d4e376affb1") false
    over (fun _ h => by cases h) (by kernel_rfl) (fun _ h => by cases h) sectorKnown_row_tie rfl ⟨rfl, rfl⟩ (by kernel_rfl) rfl
    (fun f fn hf hfn => by
      obtain rfl : f = 6 := Option.some.inj ((show Tryd.prog.funcNamed "rill/rilllaw11.SectorKnown" = some 6 by kernel_rfl).symm.trans hf) |>.symm
      obtain rfl : fn = Tryd.f6 := (Option.some.inj (Tryd.func6.symm.trans hfn)).symm
      refine ⟨by kernel_rfl, fun j t ht => ?_⟩
      rw [Tryd.params6] at ht
      rcases j with _ <;> simp at ht)
    (by kernel_rfl)
#print axioms card
end Go.Proofs.YtmnlmjlmbceimaaDoor.sectorKnown
namespace Go.Proofs.YtmnlmjlmbceimaaDoor
/-- The card, under a short name, for the claim. -/
theorem sectorKnown_holds : Rows.SectorKnownCardSaid := sectorKnown.card
end Go.Proofs.YtmnlmjlmbceimaaDoor
