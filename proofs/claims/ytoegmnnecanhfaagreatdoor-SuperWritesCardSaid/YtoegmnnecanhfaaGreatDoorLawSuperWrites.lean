/- The row of the law SuperWrites, and its card. -/
import Derived.Test.YtoegmnnecanhfaaGreatDoorRows
import Derived.Test.YtoegmnnecanhfaaGreatDoorTie
import Derived.Test.YtoegmnnecanhfaaGreatDoorCards
import Derived.Test.YtoegmnnecanhfaaGreatDoorQ6
import Derived.Lay
import Derived.LaidLaws
import Derived.LaidHandle
import Derived.Handed
import Derived.SevenTiedAt
import Derived.Stop.Joined
namespace Go.Proofs.YtoegmnnecanhfaaGreatDoor.superWrites
open Go.ChangeShapes Go.WideShapes Go.ChangeAt Go.RowKit
open Go.ChangeMaps (open_string shut_string)
set_option linter.unusedVariables false
abbrev laid : List (String × DataW Unit) := [("rill/rillref01.K", Rows.laid_rill_rillref01_K), ("rill/sha.k", Rows.laid_rill_sha_k)]
theorem own : ownKnob Tryz.prog.godebug = none := by kernel_rfl
theorem laidOut : laidOutB Tryz.prog = true := by kernel_rfl
def kZ : List Int := kT.map fun w => (w.toNat : Int)
theorem laid_eq_sha : (Rows.laid_rill_sha_k : DataW Unit) = .agg (kZ.map fun z => .lit (.int .u32 z)) := by kernel_rfl
theorem laid_eq_ref : (Rows.laid_rill_rillref01_K : DataW Unit) = .agg (kZ.map fun z => .lit (.int .u32 z)) := by kernel_rfl
theorem start {W : World} (h : laidMetH Tryz.prog laid W) : ∃ m ρ, Adm.St m ρ W ∧ (∀ e, Adm.rowOf (m ++ e) 0 = some (wds kT)) ∧ (∀ e, Adm.rowOf (m ++ e) 1 = some (wds kT)) := by
  have h' : laidMet Tryz.prog laid W := by rw [MakeChecks.laidMetH_plain _ _ _ (by kernel_rfl)] at h; exact h
  obtain ⟨ps, ⟨g', t', cs', fuel', p', q', hg', ht', hv', htr', ⟨g, t, cs, fuel, p, q, hg, ht, hv, htr, -, -⟩, -⟩, -, -⟩ := h'
  obtain rfl : g' = 1 := Option.some.inj (hg'.symm.trans (by kernel_rfl))
  obtain rfl : t' = 172 := Option.some.inj (ht'.symm.trans (by kernel_rfl))
  rw [laid_eq_ref] at htr'
  obtain ⟨e', fz', hb', hc'⟩ := Adm.laid_block (N := 64) hg' hv' Tryz.underlying172 Tryz.underlying151 (by kernel_rfl) (by kernel_rfl) htr'
  obtain rfl : g = 0 := Option.some.inj (hg.symm.trans (by kernel_rfl))
  obtain rfl : t = 172 := Option.some.inj (ht.symm.trans (by kernel_rfl))
  rw [laid_eq_sha] at htr
  obtain ⟨e, fz, hb, hc⟩ := Adm.laid_block (N := 64) hg hv Tryz.underlying172 Tryz.underlying151 (by kernel_rfl) (by kernel_rfl) htr
  obtain ⟨ρ, hs⟩ := Adm.St.laid2 (g0 := 0) (g1 := 1) rfl hb hc hb' hc'
  exact ⟨_, ρ, hs, fun e => by simp [Adm.rowOf, kZ, wds], fun e => by simp [Adm.rowOf, kZ, wds]⟩
set_option maxRecDepth 100000 in
theorem lifted (os : Os) (started : os.Started) (H : Type) (enc : TypeId × Value → H) :
    ReturnsInHanded {} Tryz.checked os 3 .any (fun w args => (Rows.superWritesSpec.pre enc Tryz.prog Tryz.f3 [] false w args ∧ laidMetH Tryz.prog laid w) ∧ sizedMet enc Tryz.prog Tryz.f3 (OpenSpec.ofChange Rows.superWritesSpec) false w args)
      (Rows.superWritesSpec.post enc Tryz.prog Tryz.f3 false true false false) := by
  refine returnsInHanded_of_change_and (C := Tryz.checked) (X := fun w _ => laidMetH Tryz.prog laid w) (fun _ _ _ hh h => h.of_heap hh) own started (by kernel_rfl) Tryz.func3
    (ChangeSpec.witness_shaped (enc := enc) (C := Tryz.checked) (os := os) (X := fun w _ => laidMetH Tryz.prog laid w) false (World.laidAll Tryz.prog os laid) #[.slice none 0 0, .agg #[.int .i64 0, .int .i64 0, .int .i64 0], .agg #[.int .i64 0, .int .i64 0], .slice none 0 0] 8 (World.laidAll_os _ _ _)
      (World.shaped_of_ZipB (by kernel_rfl) (by kernel_rfl)) (by kernel_rfl) (by kernel_rfl) (by kernel_rfl)
      (by rw [MakeChecks.laidMetH_plain _ _ _ (by kernel_rfl)]; exact laidMet_laidAll _ (by kernel_rfl) (by kernel_rfl))) ?_
  intro W base args ds gs before hval0 hW _ _ hL _
  have hval : ∀ (j : Nat) t v, Tryz.f3.params[j]? = some t → args[j]? = some v → Value.okWide Tryz.prog W .any base t v := hval0
  have hW' := hW
  obtain ⟨p, q, hA0, hV, rfl, hfz, hnd⟩ := hW
  have hA : DataW.TrodAll enc Tryz.prog W 0 (fun _ => true) true Tryz.f3.params.toList args.toList ds p := hA0
  rw [Tryz.params3] at hA hval
  obtain ⟨v0, vs0, d0, ds0, p0, q0, hargs, rfl, rfl, h0, r0⟩ := trodAll_cons hA
  obtain ⟨v1, vs1, d1, ds1, p1, q1, rfl, rfl, rfl, h1, r1⟩ := trodAll_cons r0
  obtain ⟨v2, vs2, d2, ds2, p2, q2, rfl, rfl, rfl, h2, r2⟩ := trodAll_cons r1
  obtain ⟨v3, vs3, d3, ds3, p3, q3, rfl, rfl, rfl, h3, r3⟩ := trodAll_cons r2
  obtain ⟨rfl, rfl, rfl⟩ := trodAll_nil r3
  obtain rfl : args = #[v0, v1, v2, v3] := by cases args; simp_all
  obtain ⟨rfl, rfl⟩ := trodVars_none hV
  have lt0 : ∀ x ∈ p0, x.block < W.heap.size := by obtain ⟨m, hm⟩ := h0; exact DataW.trod_lt m _ _ _ hm
  have k0 := h0
  have lt1 : ∀ x ∈ p1, x.block < W.heap.size := by obtain ⟨m, hm⟩ := h1; exact DataW.trod_lt m _ _ _ hm
  have k1 := h1
  have lt2 : ∀ x ∈ p2, x.block < W.heap.size := by obtain ⟨m, hm⟩ := h2; exact DataW.trod_lt m _ _ _ hm
  have k2 := h2
  have lt3 : ∀ x ∈ p3, x.block < W.heap.size := by obtain ⟨m, hm⟩ := h3; exact DataW.trod_lt m _ _ _ hm
  have k3 := h3
  obtain ⟨m, ρ, hs, hK, hR⟩ := start hL
  obtain ⟨g0, w0, o0⟩ := Adm.Opens.ints Tryz.underlying22 Tryz.underlying5 (by kernel_rfl) (hval 0 22 v0 rfl rfl) h0
  replace o0 := Adm.Opens.bytes w0 o0
  obtain ⟨g1, w1, y1⟩ := Adm.Opens.row (d0 := 12) (ks := geoK) (by kernel_rfl) (by kernel_rfl) (hval 1 24 v1 rfl rfl) h1
  obtain ⟨g1, f1⟩ := geo_of w1
  rw [f1] at y1
  obtain ⟨g2, w2, y2⟩ := Adm.Opens.row (d0 := 12) (ks := whatK) (by kernel_rfl) (by kernel_rfl) (hval 2 26 v2 rfl rfl) h2
  obtain ⟨g2, f2⟩ := what_of w2
  rw [f2] at y2
  obtain ⟨g3, w3, o3⟩ := Adm.Opens.ints Tryz.underlying22 Tryz.underlying5 (by kernel_rfl) (hval 3 22 v3 rfl rfl) h3
  replace o3 := Adm.Opens.bytes w3 o3
  obtain ⟨e0, ρ0, x0, s0, u0, y0, z0⟩ := o0 (m) _ hs
  obtain ⟨e3, ρ3, x3, s3, u3, y3, z3⟩ := o3 (m ++ e0) _ s0
  have hQ0 := z0 (e3)
  have hQ3 := z3 ([])
  simp only [List.append_nil, List.append_assoc] at hQ0 s0 hQ3 s3
  clear hA0 hval0
  refine ((ans_SuperWrites (g := g1) (e := g2.1.1) (a := g2.1.2) (hK _) (hR _) g2.2 hQ0 hQ3).calls s3 (.cons (y0.mono u3) (.cons (y1 _) (.cons (y2 _) (.cons y3 .nil))))).mono fun e W' ⟨he, bel⟩ => ?_
  subst he
  exact ⟨_, rfl, _, _, _, [], _, [], hW', trodAll_mk1 (shut_bool Tryz.underlying4 _), (trodAll_cons_mk (Below.trod laidOut (by kernel_rfl) (of_decide_eq_true (by kernel_rfl)) k0 bel lt0) (trodAll_cons_mk (Below.trod laidOut (by kernel_rfl) (of_decide_eq_true (by kernel_rfl)) k1 bel lt1) (trodAll_cons_mk (Below.trod laidOut (by kernel_rfl) (of_decide_eq_true (by kernel_rfl)) k2 bel lt2) (trodAll_cons_mk (Below.trod laidOut (by kernel_rfl) (of_decide_eq_true (by kernel_rfl)) k3 bel lt3) trodAll_mk0)))), rfl, bel.frame _, fun h => by cases h⟩
theorem over : Rows.superWritesRow.holds Tryz.pinned (OpenSpec.ofChange Rows.superWritesSpec) :=
  OpenClaim.holds_of_wide 3 Tryz.f3 rfl rfl rfl rfl rfl rfl rfl ⟨rfl, rfl, rfl, rfl, rfl⟩ rfl rfl rfl rfl rfl (by kernel_rfl) Tryz.func3 (by kernel_rfl)
    (of_decide_eq_true (by kernel_rfl)) (by unfold Func.isWrapper; first | (rw [if_pos (by decide +kernel)]; kernel_rfl) | (rw [if_neg (by decide +kernel)]; exact ⟨rfl, rfl⟩))
    (fun os started H enc _ => lifted os started H enc)
theorem proved : Rows.SuperWritesSaid := over
theorem card : Rows.SuperWritesCardSaid :=
  Claim7.holds_tied_plain_at .later [] [.data, .data] true (true, "c45979b86827dc84f7bd4f3ee33778c5fd893b8817edc43275494700b26f8b6b") false
    over (fun _ h => by cases h) (by kernel_rfl) (fun _ h => by cases h) superWrites_row_tie rfl ⟨rfl, rfl⟩ (by kernel_rfl) rfl
    (fun f fn hf hfn => by
      obtain rfl : f = 3 := Option.some.inj ((show Tryz.prog.funcNamed "rill/rilllaw15.SuperWrites" = some 3 by kernel_rfl).symm.trans hf) |>.symm
      obtain rfl : fn = Tryz.f3 := (Option.some.inj (Tryz.func3.symm.trans hfn)).symm
      refine ⟨by kernel_rfl, fun j t ht => ?_⟩
      rw [Tryz.params3] at ht
      rcases j with _ | _ | _ | _ | _ <;> simp at ht <;> subst ht <;> kernel_rfl)
    (by kernel_rfl)
#print axioms card
end Go.Proofs.YtoegmnnecanhfaaGreatDoor.superWrites
namespace Go.Proofs.YtoegmnnecanhfaaGreatDoor
/-- The card, under a short name, for the claim. -/
theorem superWrites_holds : Rows.SuperWritesCardSaid := superWrites.card
end Go.Proofs.YtoegmnnecanhfaaGreatDoor
