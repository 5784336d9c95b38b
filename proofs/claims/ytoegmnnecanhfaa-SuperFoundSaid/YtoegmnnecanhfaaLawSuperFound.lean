/- The row of the law SuperFound. -/
import Derived.Test.YtoegmnnecanhfaaRows
import Derived.Test.YtoegmnnecanhfaaQ4
namespace Go.Proofs.Ytoegmnnecanhfaa.superFound
open Go.ChangeShapes Go.WideShapes Go.ChangeAt Go.RowKit
open Go.ChangeMaps (open_string shut_string)
set_option linter.unusedVariables false
theorem own : ownKnob Try.prog.godebug = none := by kernel_rfl
theorem laidOut : laidOutB Try.prog = true := by kernel_rfl
set_option maxRecDepth 100000 in
theorem lifted (os : Os) (started : os.Started) (H : Type) (enc : TypeId × Value → H) :
    ReturnsInHanded {} Try.checked os 4 .any (Rows.superFoundSpec.pre6 enc Try.prog Try.f4 Rows.superFoundRow.domain false) (Rows.superFoundSpec.post enc Try.prog Try.f4 false true false false) := by
  refine returnsInHanded_of_change_sized (C := Try.checked) own started (by kernel_rfl) Try.func4
    (ChangeSpec.witness6 (enc := enc) (C := Try.checked) false ⟨#[], #[.slice none 0 0, .slice none 0 0, .slice none 0 0, .int .i64 0], []⟩ 8 (by kernel_rfl) (by kernel_rfl) (by kernel_rfl) (by kernel_rfl)) ?_
  intro W base args ds gs before hval0 hW hcnd hsz0 _
  have hval : ∀ (j : Nat) t v, Try.f4.params[j]? = some t → args[j]? = some v → Value.okWide Try.prog W .any base t v := hval0
  have hW' := hW
  obtain ⟨p, q, hA0, hV, rfl, hfz, hnd⟩ := hW
  have hA : DataW.TrodAll enc Try.prog W 0 (fun _ => true) true Try.f4.params.toList args.toList ds p := hA0
  rw [Try.params4] at hA hval
  obtain ⟨v0, vs0, d0, ds0, p0, q0, hargs, rfl, rfl, h0, r0⟩ := trodAll_cons hA
  obtain ⟨v1, vs1, d1, ds1, p1, q1, rfl, rfl, rfl, h1, r1⟩ := trodAll_cons r0
  obtain ⟨v2, vs2, d2, ds2, p2, q2, rfl, rfl, rfl, h2, r2⟩ := trodAll_cons r1
  obtain ⟨v3, vs3, d3, ds3, p3, q3, rfl, rfl, rfl, h3, r3⟩ := trodAll_cons r2
  obtain ⟨rfl, rfl, rfl⟩ := trodAll_nil r3
  obtain rfl : args = #[v0, v1, v2, v3] := by cases args; simp_all
  obtain ⟨rfl, rfl⟩ := trodVars_none hV
  have lt0 : ∀ x ∈ p0, x.block < W.heap.size := by obtain ⟨m, hm⟩ := h0; exact DataW.trod_lt m _ _ _ hm
  have k0 := h0
  have lt1 : ∀ x ∈ p1, x.block < W.heap.size := by obtain ⟨m, hm⟩ := h1; exact DataW.trod_lt m _ _ _ hm
  have k1 := h1
  have lt2 : ∀ x ∈ p2, x.block < W.heap.size := by obtain ⟨m, hm⟩ := h2; exact DataW.trod_lt m _ _ _ hm
  have k2 := h2
  have lt3 : ∀ x ∈ p3, x.block < W.heap.size := by obtain ⟨m, hm⟩ := h3; exact DataW.trod_lt m _ _ _ hm
  have k3 := h3
  obtain ⟨g0, o0⟩ := Adm.Opens.recs (d0 := 9) (ks := [.i .i64, .i .i64, .i .i64]) Try.underlying34 (by kernel_rfl) (by kernel_rfl) (by decide) (hval 0 34 v0 rfl rfl) h0
  obtain ⟨g1, o1⟩ := Adm.Opens.recs (d0 := 9) (ks := [.i .i64]) Try.underlying35 (by kernel_rfl) (by kernel_rfl) (by decide) (hval 1 35 v1 rfl rfl) h1
  obtain ⟨g2, w2, o2⟩ := Adm.Opens.ints Try.underlying24 Try.underlying5 (by kernel_rfl) (hval 2 24 v2 rfl rfl) h2
  replace o2 := Adm.Opens.bytes w2 o2
  obtain ⟨a3, rfl, _, _, w3⟩ := open_int Try.underlying3 (hval 3 3 v3 rfl rfl) h3
  obtain ⟨e0, ρ0, x0, s0, u0, y0, z0⟩ := o0 ([]) _ (Adm.St.nil W)
  obtain ⟨e1, ρ1, x1, s1, u1, y1, z1⟩ := o1 ([] ++ e0) _ s0
  obtain ⟨e2, ρ2, x2, s2, u2, y2, z2⟩ := o2 ([] ++ e0 ++ e1) _ s1
  have hQ0 := z0 (e1 ++ e2)
  have hQ1 := z1 (e2)
  have hQ2 := z2 ([])
  simp only [List.append_nil, List.append_assoc] at hQ0 s0 hQ1 s1 hQ2 s2
  clear hA0 hval0 hsz0
  refine ((ans_SuperFound (IsRecs.geos hQ0).choose_spec.2 (IsRecs.ints hQ1).choose_spec.2 hQ2 (back := a3)).calls s2 (.cons ((y0.mono u1).mono u2) (.cons (y1.mono u2) (.cons y2 (.cons (.int _ _) .nil))))).mono fun e W' ⟨he, bel⟩ => ?_
  subst he
  exact ⟨_, rfl, _, _, _, [], _, [], hW', trodAll_mk1 (shut_bool Try.underlying4 _), (trodAll_cons_mk (Below.trod laidOut (by kernel_rfl) (of_decide_eq_true (by kernel_rfl)) k0 bel lt0) (trodAll_cons_mk (Below.trod laidOut (by kernel_rfl) (of_decide_eq_true (by kernel_rfl)) k1 bel lt1) (trodAll_cons_mk (Below.trod laidOut (by kernel_rfl) (of_decide_eq_true (by kernel_rfl)) k2 bel lt2) (trodAll_cons_mk (Below.trod laidOut (by kernel_rfl) (of_decide_eq_true (by kernel_rfl)) k3 bel lt3) trodAll_mk0)))), rfl, bel.frame _, fun h => by cases h⟩
theorem over : Rows.superFoundRow.holds Try.pinned (OpenSpec.ofChange Rows.superFoundSpec) :=
  OpenClaim.holds_of_wide 4 Try.f4 rfl rfl rfl rfl rfl rfl rfl ⟨rfl, rfl, rfl, rfl, rfl⟩ rfl rfl rfl rfl rfl (by kernel_rfl) Try.func4 (by kernel_rfl)
    (of_decide_eq_true (by kernel_rfl)) (by unfold Func.isWrapper; first | (rw [if_pos (by decide +kernel)]; kernel_rfl) | (rw [if_neg (by decide +kernel)]; exact ⟨rfl, rfl⟩))
    (fun os started H enc _ => lifted os started H enc)
theorem proved : Rows.SuperFoundSaid := over
#print axioms proved
end Go.Proofs.Ytoegmnnecanhfaa.superFound
namespace Go.Proofs.Ytoegmnnecanhfaa
/-- The row, under a short name, for the claim. -/
theorem superFound_holds : Rows.SuperFoundSaid := superFound.proved
end Go.Proofs.Ytoegmnnecanhfaa
