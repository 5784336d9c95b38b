/- The row of the law SectorUnlike, and its card. -/
import Derived.Test.YtmnlmjlmbceimaaDoorRows
import Derived.Test.YtmnlmjlmbceimaaDoorTie
import Derived.Test.YtmnlmjlmbceimaaDoorCards
import Derived.Test.YtmnlmjlmbceimaaDoorM5
import Derived.Lay
import Derived.LaidLaws
import Derived.LaidHandle
import Derived.Handed
import Derived.SevenTiedAt
import Derived.Stop.Joined
namespace Go.Proofs.YtmnlmjlmbceimaaDoor.sectorUnlike
open Go.ChangeShapes Go.WideShapes Go.ChangeAt Go.RowKit
open Go.ChangeMaps (open_string shut_string)
set_option linter.unusedVariables false
abbrev laid : List (String × DataW Unit) := [("rill/sha.k", Rows.laid_rill_sha_k)]
theorem own : ownKnob Tryd.prog.godebug = none := by kernel_rfl
theorem laidOut : laidOutB Tryd.prog = true := by kernel_rfl
def kZ : List Int := kT.map fun w => (w.toNat : Int)
theorem laid_eq_sha : (Rows.laid_rill_sha_k : DataW Unit) = .agg (kZ.map fun z => .lit (.int .u32 z)) := by kernel_rfl
theorem start {W : World} (h : laidMetH Tryd.prog laid W) : ∃ m ρ, Adm.St m ρ W ∧ (∀ e, Adm.rowOf (m ++ e) 0 = some (wds kT)) := by
  have h' : laidMet Tryd.prog laid W := by rw [MakeChecks.laidMetH_plain _ _ _ (by kernel_rfl)] at h; exact h
  obtain ⟨ps, ⟨g, t, cs, fuel, p, q, hg, ht, hv, htr, -, -⟩, -, -⟩ := h'
  obtain rfl : g = 0 := Option.some.inj (hg.symm.trans (by kernel_rfl))
  obtain rfl : t = 101 := Option.some.inj (ht.symm.trans (by kernel_rfl))
  rw [laid_eq_sha] at htr
  obtain ⟨e, fz, hb, hc⟩ := Adm.laid_block (N := 64) hg hv Tryd.underlying101 Tryd.underlying95 (by kernel_rfl) (by kernel_rfl) htr
  obtain ⟨ρ, hs⟩ := Adm.St.laid0 (g0 := 0) rfl hb hc
  exact ⟨_, ρ, hs, fun e => by simp [Adm.rowOf, kZ, wds]⟩
set_option maxRecDepth 100000 in
theorem lifted (os : Os) (started : os.Started) (H : Type) (enc : TypeId × Value → H) :
    ReturnsInHanded {} Tryd.checked os 7 .any (fun w args => (Rows.sectorUnlikeSpec.pre enc Tryd.prog Tryd.f7 [] false w args ∧ laidMetH Tryd.prog laid w) ∧ sizedMet enc Tryd.prog Tryd.f7 (OpenSpec.ofChange Rows.sectorUnlikeSpec) false w args)
      (Rows.sectorUnlikeSpec.post enc Tryd.prog Tryd.f7 false true false false) := by
  refine returnsInHanded_of_change_and (C := Tryd.checked) (X := fun w _ => laidMetH Tryd.prog laid w) (fun _ _ _ hh h => h.of_heap hh) own started (by kernel_rfl) Tryd.func7
    (ChangeSpec.witness_shaped (enc := enc) (C := Tryd.checked) (os := os) (X := fun w _ => laidMetH Tryd.prog laid w) false (World.laidAll Tryd.prog os laid) #[.agg #[.int .i64 0, .int .i64 0, .int .i64 0, .int .i64 0, .slice none 0 0], .agg #[.int .i64 0, .int .i64 0, .int .i64 0, .int .i64 0, .slice none 0 0]] 8 (World.laidAll_os _ _ _)
      (World.shaped_of_ZipB (by kernel_rfl) (by kernel_rfl)) (by kernel_rfl) (by kernel_rfl) (by kernel_rfl)
      (by rw [MakeChecks.laidMetH_plain _ _ _ (by kernel_rfl)]; exact laidMet_laidAll _ (by kernel_rfl) (by kernel_rfl))) ?_
  intro W base args ds gs before hval0 hW _ _ hL _
  have hval : ∀ (j : Nat) t v, Tryd.f7.params[j]? = some t → args[j]? = some v → Value.okWide Tryd.prog W .any base t v := hval0
  have hW' := hW
  obtain ⟨p, q, hA0, hV, rfl, hfz, hnd⟩ := hW
  have hA : DataW.TrodAll enc Tryd.prog W 0 (fun _ => true) true Tryd.f7.params.toList args.toList ds p := hA0
  rw [Tryd.params7] at hA hval
  obtain ⟨v0, vs0, d0, ds0, p0, q0, hargs, rfl, rfl, h0, r0⟩ := trodAll_cons hA
  obtain ⟨v1, vs1, d1, ds1, p1, q1, rfl, rfl, rfl, h1, r1⟩ := trodAll_cons r0
  obtain ⟨rfl, rfl, rfl⟩ := trodAll_nil r1
  obtain rfl : args = #[v0, v1] := by cases args; simp_all
  obtain ⟨rfl, rfl⟩ := trodVars_none hV
  have lt0 : ∀ x ∈ p0, x.block < W.heap.size := by obtain ⟨m, hm⟩ := h0; exact DataW.trod_lt m _ _ _ hm
  have k0 := h0
  have lt1 : ∀ x ∈ p1, x.block < W.heap.size := by obtain ⟨m, hm⟩ := h1; exact DataW.trod_lt m _ _ _ hm
  have k1 := h1
  obtain ⟨m, ρ, hs, hK⟩ := start hL
  obtain ⟨g0, o0⟩ := Adm.Opens.cells (d0 := 9) (ks := [.i .i64, .i .i64, .i .i64, .i .i64, .b]) (by kernel_rfl) (by kernel_rfl) (hval 0 24 v0 rfl rfl) h0
  obtain ⟨c0_1, c0_2, c0_3, c0_4, l0, o0⟩ := Adm.Opens.iiiib o0
  obtain ⟨g1, o1⟩ := Adm.Opens.cells (d0 := 9) (ks := [.i .i64, .i .i64, .i .i64, .i .i64, .b]) (by kernel_rfl) (by kernel_rfl) (hval 1 24 v1 rfl rfl) h1
  obtain ⟨c1_1, c1_2, c1_3, c1_4, l1, o1⟩ := Adm.Opens.iiiib o1
  obtain ⟨e0, ρ0, x0, s0, u0, y0, z0⟩ := o0 (m) _ hs
  obtain ⟨e1, ρ1, x1, s1, u1, y1, z1⟩ := o1 (m ++ e0) _ s0
  have hQ0 := z0 (e1)
  have hQ1 := z1 ([])
  simp only [List.append_nil, List.append_assoc] at hQ0 s0 hQ1 s1
  obtain ⟨t0, rfl, hQ0⟩ := hQ0
  obtain ⟨t1, rfl, hQ1⟩ := hQ1
  clear hA0 hval0
  refine ((ans_SectorUnlike (s := ⟨c0_1, c0_2, c0_3, c0_4, l0⟩) (t := ⟨c1_1, c1_2, c1_3, c1_4, l1⟩) (hK _) hQ0 hQ1).calls s1 (.cons (y0.mono u1) (.cons y1 .nil))).mono fun e W' ⟨he, bel⟩ => ?_
  subst he
  exact ⟨_, rfl, _, _, _, [], _, [], hW', trodAll_mk1 (shut_bool Tryd.underlying4 _), (trodAll_cons_mk (Below.trod laidOut (by kernel_rfl) (of_decide_eq_true (by kernel_rfl)) k0 bel lt0) (trodAll_cons_mk (Below.trod laidOut (by kernel_rfl) (of_decide_eq_true (by kernel_rfl)) k1 bel lt1) trodAll_mk0)), rfl, bel.frame _, fun h => by cases h⟩
theorem over : Rows.sectorUnlikeRow.holds Tryd.pinned (OpenSpec.ofChange Rows.sectorUnlikeSpec) :=
  OpenClaim.holds_of_wide 7 Tryd.f7 rfl rfl rfl rfl rfl rfl rfl ⟨rfl, rfl, rfl, rfl, rfl⟩ rfl rfl rfl rfl rfl (by kernel_rfl) Tryd.func7 (by kernel_rfl)
    (of_decide_eq_true (by kernel_rfl)) (by unfold Func.isWrapper; first | (rw [if_pos (by decide +kernel)]; kernel_rfl) | (rw [if_neg (by decide +kernel)]; exact ⟨rfl, rfl⟩))
    (fun os started H enc _ => lifted os started H enc)
theorem proved : Rows.SectorUnlikeSaid := over
theorem card : Rows.SectorUnlikeCardSaid :=
  Claim7.holds_tied_plain_at .later [] [.data] true (true, "0c7e55e46b35a2e92a5924e17fcfe984d3d7db7983f57e23da153d4e376affb1") false
    over (fun _ h => by cases h) (by kernel_rfl) (fun _ h => by cases h) sectorUnlike_row_tie rfl ⟨rfl, rfl⟩ (by kernel_rfl) rfl
    (fun f fn hf hfn => by
      obtain rfl : f = 7 := Option.some.inj ((show Tryd.prog.funcNamed "rill/rilllaw11.SectorUnlike" = some 7 by kernel_rfl).symm.trans hf) |>.symm
      obtain rfl : fn = Tryd.f7 := (Option.some.inj (Tryd.func7.symm.trans hfn)).symm
      refine ⟨by kernel_rfl, fun j t ht => ?_⟩
      rw [Tryd.params7] at ht
      rcases j with _ | _ | _ <;> simp at ht <;> subst ht <;> kernel_rfl)
    (by kernel_rfl)
#print axioms card
end Go.Proofs.YtmnlmjlmbceimaaDoor.sectorUnlike
namespace Go.Proofs.YtmnlmjlmbceimaaDoor
/-- The card, under a short name, for the claim. -/
theorem sectorUnlike_holds : Rows.SectorUnlikeCardSaid := sectorUnlike.card
end Go.Proofs.YtmnlmjlmbceimaaDoor
