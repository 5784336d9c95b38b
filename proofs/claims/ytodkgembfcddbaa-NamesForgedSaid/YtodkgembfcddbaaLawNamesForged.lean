/- The row of the law NamesForged. -/
import Derived.Test.YtodkgembfcddbaaRows
import Derived.Test.YtodkgembfcddbaaM4
namespace Go.Proofs.Ytodkgembfcddbaa.namesForged
open Go.ChangeShapes Go.WideShapes Go.ChangeAt Go.RowKit
open Go.ChangeMaps (open_string shut_string)
set_option linter.unusedVariables false
theorem own : ownKnob Try.prog.godebug = none := by kernel_rfl
theorem laidOut : laidOutB Try.prog = true := by kernel_rfl
set_option maxRecDepth 100000 in
theorem lifted (os : Os) (started : os.Started) (H : Type) (enc : TypeId × Value → H) :
    ReturnsInHanded {} Try.checked os 5 .any (Rows.namesForgedSpec.pre6 enc Try.prog Try.f5 Rows.namesForgedRow.domain false) (Rows.namesForgedSpec.post enc Try.prog Try.f5 false true false false) := by
  refine returnsInHanded_of_change_sized (C := Try.checked) own started (by kernel_rfl) Try.func5
    (ChangeSpec.witness6 (enc := enc) (C := Try.checked) false ⟨#[], #[.slice none 0 0, .int .i64 0, .int .i64 0, .slice none 0 0, .slice none 0 0], []⟩ 8 (by kernel_rfl) (by kernel_rfl) (by kernel_rfl) (by kernel_rfl)) ?_
  intro W base args ds gs before hval0 hW hcnd hsz0 _
  have hval : ∀ (j : Nat) t v, Try.f5.params[j]? = some t → args[j]? = some v → Value.okWide Try.prog W .any base t v := hval0
  have hW' := hW
  obtain ⟨p, q, hA0, hV, rfl, hfz, hnd⟩ := hW
  have hA : DataW.TrodAll enc Try.prog W 0 (fun _ => true) true Try.f5.params.toList args.toList ds p := hA0
  rw [Try.params5] at hA hval
  obtain ⟨v0, vs0, d0, ds0, p0, q0, hargs, rfl, rfl, h0, r0⟩ := trodAll_cons hA
  obtain ⟨v1, vs1, d1, ds1, p1, q1, rfl, rfl, rfl, h1, r1⟩ := trodAll_cons r0
  obtain ⟨v2, vs2, d2, ds2, p2, q2, rfl, rfl, rfl, h2, r2⟩ := trodAll_cons r1
  obtain ⟨v3, vs3, d3, ds3, p3, q3, rfl, rfl, rfl, h3, r3⟩ := trodAll_cons r2
  obtain ⟨v4, vs4, d4, ds4, p4, q4, rfl, rfl, rfl, h4, r4⟩ := trodAll_cons r3
  obtain ⟨rfl, rfl, rfl⟩ := trodAll_nil r4
  obtain rfl : args = #[v0, v1, v2, v3, v4] := by cases args; simp_all
  obtain ⟨rfl, rfl⟩ := trodVars_none hV
  have lt0 : ∀ x ∈ p0, x.block < W.heap.size := by obtain ⟨m, hm⟩ := h0; exact DataW.trod_lt m _ _ _ hm
  have k0 := h0
  have lt1 : ∀ x ∈ p1, x.block < W.heap.size := by obtain ⟨m, hm⟩ := h1; exact DataW.trod_lt m _ _ _ hm
  have k1 := h1
  have lt2 : ∀ x ∈ p2, x.block < W.heap.size := by obtain ⟨m, hm⟩ := h2; exact DataW.trod_lt m _ _ _ hm
  have k2 := h2
  have lt3 : ∀ x ∈ p3, x.block < W.heap.size := by obtain ⟨m, hm⟩ := h3; exact DataW.trod_lt m _ _ _ hm
  have k3 := h3
  have lt4 : ∀ x ∈ p4, x.block < W.heap.size := by obtain ⟨m, hm⟩ := h4; exact DataW.trod_lt m _ _ _ hm
  have k4 := h4
  obtain ⟨g0, o0⟩ := Adm.Opens.recs (d0 := 9) (ks := [.i .i64, .i .i64, .b, .b]) Try.underlying44 (by kernel_rfl) (by kernel_rfl) (by decide) (hval 0 44 v0 rfl rfl) h0
  obtain ⟨a1, rfl, _, _, w1⟩ := open_int Try.underlying3 (hval 1 3 v1 rfl rfl) h1
  obtain ⟨a2, rfl, _, _, w2⟩ := open_int Try.underlying3 (hval 2 3 v2 rfl rfl) h2
  obtain ⟨g3, w3, o3⟩ := Adm.Opens.ints Try.underlying30 Try.underlying5 (by kernel_rfl) (hval 3 30 v3 rfl rfl) h3
  replace o3 := Adm.Opens.bytes w3 o3
  obtain ⟨g4, w4, o4⟩ := Adm.Opens.ints Try.underlying30 Try.underlying5 (by kernel_rfl) (hval 4 30 v4 rfl rfl) h4
  replace o4 := Adm.Opens.bytes w4 o4
  obtain ⟨e0, ρ0, x0, s0, u0, y0, z0⟩ := o0 ([]) _ (Adm.St.nil W)
  obtain ⟨e3, ρ3, x3, s3, u3, y3, z3⟩ := o3 ([] ++ e0) _ s0
  obtain ⟨e4, ρ4, x4, s4, u4, y4, z4⟩ := o4 ([] ++ e0 ++ e3) _ s3
  have hQ0 := z0 (e3 ++ e4)
  have hQ3 := z3 (e4)
  have hQ4 := z4 ([])
  simp only [List.append_nil, List.append_assoc] at hQ0 s0 hQ3 s3 hQ4 s4
  clear hA0 hval0 hsz0
  refine ((ans_NamesForged (IsRecs.fours hQ0).choose_spec.2 hQ3 hQ4).calls s4 (.cons ((y0.mono u3).mono u4) (.cons (.int _ _) (.cons (.int _ _) (.cons (y3.mono u4) (.cons y4 .nil)))))).mono fun e W' ⟨he, bel⟩ => ?_
  subst he
  exact ⟨_, rfl, _, _, _, [], _, [], hW', trodAll_mk1 (shut_bool Try.underlying4 _), (trodAll_cons_mk (Below.trod laidOut (by kernel_rfl) (of_decide_eq_true (by kernel_rfl)) k0 bel lt0) (trodAll_cons_mk (Below.trod laidOut (by kernel_rfl) (of_decide_eq_true (by kernel_rfl)) k1 bel lt1) (trodAll_cons_mk (Below.trod laidOut (by kernel_rfl) (of_decide_eq_true (by kernel_rfl)) k2 bel lt2) (trodAll_cons_mk (Below.trod laidOut (by kernel_rfl) (of_decide_eq_true (by kernel_rfl)) k3 bel lt3) (trodAll_cons_mk (Below.trod laidOut (by kernel_rfl) (of_decide_eq_true (by kernel_rfl)) k4 bel lt4) trodAll_mk0))))), rfl, bel.frame _, fun h => by cases h⟩
theorem over : Rows.namesForgedRow.holds Try.pinned (OpenSpec.ofChange Rows.namesForgedSpec) :=
  OpenClaim.holds_of_wide 5 Try.f5 rfl rfl rfl rfl rfl rfl rfl ⟨rfl, rfl, rfl, rfl, rfl⟩ rfl rfl rfl rfl rfl (by kernel_rfl) Try.func5 (by kernel_rfl)
    (of_decide_eq_true (by kernel_rfl)) (by unfold Func.isWrapper; first | (rw [if_pos (by decide +kernel)]; kernel_rfl) | (rw [if_neg (by decide +kernel)]; exact ⟨rfl, rfl⟩))
    (fun os started H enc _ => lifted os started H enc)
theorem proved : Rows.NamesForgedSaid := over
#print axioms proved
end Go.Proofs.Ytodkgembfcddbaa.namesForged
namespace Go.Proofs.Ytodkgembfcddbaa
/-- The row, under a short name, for the claim. -/
theorem namesForged_holds : Rows.NamesForgedSaid := namesForged.proved
end Go.Proofs.Ytodkgembfcddbaa
