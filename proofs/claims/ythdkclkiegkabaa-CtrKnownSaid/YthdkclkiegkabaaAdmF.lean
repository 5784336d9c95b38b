/- Each pure operation of a program answers what the abstract one answers. -/
import Derived.Test.YthdkclkiegkabaaAdmE
namespace Go.Adm

section
variable {P : Program} {ρ : LMap} {ev : Operand → Value}

theorem VRL.map2 {x y : Operand} {vs : List AV} (h : VRL ρ vs ([x, y].map ev)) : ∃ a b, vs = [a, b] ∧ VR ρ a (ev x) ∧ VR ρ b (ev y) := VRL.two h
theorem VRL.map1 {x : Operand} {vs : List AV} (h : VRL ρ vs ([x].map ev)) : ∃ a, vs = [a] ∧ VR ρ a (ev x) := VRL.one h

theorem sound_arith {op : BinOp} {t yt : TypeId} {x y : Operand} {vs : List AV} {v : AV} {dst : Option Tmp} {ty : TypeId} {pos : String} {af : Array Edge} {g : Option (Nat × Bool)}
    (hop : op = .add ∨ op = .sub ∨ op = .mul ∨ op = .quo ∨ op = .rem ∨ op = .and ∨ op = .or ∨ op = .xor ∨ op = .andNot)
    (ha : pArith op vs = some v) (hv : VRL ρ vs ([x, y].map ev)) : PureTo P ρ (execOp ev ⟨dst, .binOp op t x y yt, ty, pos, af, g⟩) v := by
  obtain ⟨a, b, rfl, h1, h2⟩ := hv.map2
  unfold pArith at ha
  split at ha
  · rename_i k m k' n he
    simp only [List.cons.injEq, and_true] at he
    obtain ⟨rfl, rfl⟩ := he
    split at ha
    · rename_i hk; subst hk
      simp only [Option.map_eq_some_iff] at ha
      obtain ⟨r, hr, rfl⟩ := ha
      refine ⟨.int k r, .int k r, fun w => ?_⟩
      cases hx : ev x <;> rw [hx] at h1 <;> cases h1
      cases hy : ev y <;> rw [hy] at h2 <;> cases h2
      rcases hop with rfl | rfl | rfl | rfl | rfl | rfl | rfl | rfl | rfl <;> simp only [aArith] at hr
      case inr.inr.inr.inl => split at hr <;> cases hr; simp_all [execOp, eqGuard, binOp, Op.intDiv]
      case inr.inr.inr.inr.inl => split at hr <;> cases hr; simp_all [execOp, eqGuard, binOp, Op.intDiv]
      all_goals (cases hr; simp [execOp, eqGuard, binOp, Op.intArith, Op.intBits, hx, hy])
    · cases ha
  · cases ha

theorem sound_shift {op : BinOp} {t yt : TypeId} {x y : Operand} {vs : List AV} {v : AV} {dst : Option Tmp} {ty : TypeId} {pos : String} {af : Array Edge} {g : Option (Nat × Bool)}
    (hop : op = .shl ∨ op = .shr)
    (ha : pShift op vs = some v) (hv : VRL ρ vs ([x, y].map ev)) : PureTo P ρ (execOp ev ⟨dst, .binOp op t x y yt, ty, pos, af, g⟩) v := by
  obtain ⟨a, b, rfl, h1, h2⟩ := hv.map2
  unfold pShift at ha
  split at ha
  · rename_i k m k' n he
    simp only [List.cons.injEq, and_true] at he
    obtain ⟨rfl, rfl⟩ := he
    simp only [Option.map_eq_some_iff] at ha
    obtain ⟨r, hr, rfl⟩ := ha
    refine ⟨.int k r, .int k r, fun w => ?_⟩
    cases hx : ev x <;> rw [hx] at h1 <;> cases h1
    cases hy : ev y <;> rw [hy] at h2 <;> cases h2
    rcases hop with rfl | rfl <;> simp only [aShift] at hr <;> split at hr <;> cases hr <;> rename_i hneg <;> simp [execOp, eqGuard, binOp, Op.shift, hx, hy, hneg] <;> rfl
  · cases ha

theorem sound_cmp {op : BinOp} {t yt : TypeId} {x y : Operand} {vs : List AV} {v : AV} {dst : Option Tmp} {ty : TypeId} {pos : String} {af : Array Edge} {g : Option (Nat × Bool)}
    (hop : op = .lss ∨ op = .leq ∨ op = .gtr ∨ op = .geq)
    (ha : pCmp op vs = some v) (hv : VRL ρ vs ([x, y].map ev)) : PureTo P ρ (execOp ev ⟨dst, .binOp op t x y yt, ty, pos, af, g⟩) v := by
  obtain ⟨a, b, rfl, h1, h2⟩ := hv.map2
  unfold pCmp at ha
  split at ha
  · rename_i k m k' n he
    simp only [List.cons.injEq, and_true] at he
    obtain ⟨rfl, rfl⟩ := he
    split at ha
    · rename_i hk; subst hk
      simp only [Option.map_eq_some_iff] at ha
      obtain ⟨r, hr, rfl⟩ := ha
      refine ⟨.bool r, .bool r, fun w => ?_⟩
      cases hx : ev x <;> rw [hx] at h1 <;> cases h1
      cases hy : ev y <;> rw [hy] at h2 <;> cases h2
      rcases hop with rfl | rfl | rfl | rfl <;> simp only [aCmp] at hr <;> cases hr <;> simp [execOp, eqGuard, binOp, Op.intCmp, hx, hy]
    · cases ha
  · cases ha

theorem sound_eq {op : BinOp} {neg : Bool} {t yt : TypeId} {x y : Operand} {k : AK} {xs : List Operand} {vs : List AV} {v : AV} {dst : Option Tmp} {ty : TypeId} {pos : String} {af : Array Edge} {g : Option (Nat × Bool)}
    (hop : (op = .eql ∧ neg = false) ∨ (op = .neq ∧ neg = true)) (hc : ckEq P neg t [x, y] = some (k, xs))
    (ha : aP k vs = some v) (hv : VRL ρ vs (xs.map ev)) : PureTo P ρ (execOp ev ⟨dst, .binOp op t x y yt, ty, pos, af, g⟩) v := by
  unfold ckEq at hc
  split at hc
  · rename_i hagg
    split at hc
    · cases hc
    · rename_i hm
      simp only [Option.map_eq_some_iff, Prod.mk.injEq] at hc
      obtain ⟨ks, hks, rfl, rfl⟩ := hc
      obtain ⟨a, b, rfl, h1, h2⟩ := hv.map2
      simp only [aP, pEqAgg] at ha
      split at ha
      · rename_i la lb he
        simp only [List.cons.injEq, and_true] at he
        obtain ⟨rfl, rfl⟩ := he
        simp only [Option.map_eq_some_iff] at ha
        obtain ⟨r, hr, rfl⟩ := ha
        obtain ⟨cs, hx, hcs⟩ := h1.agg_inv
        obtain ⟨ds, hy, hds⟩ := h2.agg_inv
        have e := aEqCells_V hr hcs hds
        have hrun := fun w => run_equalIn_plain 8 t ks hks 10000 (by omega) cs.toList ds.toList r w e
        simp only [valT, hagg] at hrun
        have hrun' : ∀ w, (Op.equal t (.agg cs) (.agg ds)).run P w = .ok r w := fun w => hrun w
        have hm' : P.eqGuardType P.depth t = false := by simpa using hm
        refine ⟨.bool (if neg then !r else r), .bool _, fun w => ?_⟩
        have hg := fun op w => run_eqGuard_agg (P := P) w op t x y cs ds hm'
        rcases hop with ⟨rfl, rfl⟩ | ⟨rfl, rfl⟩
        · have : binOp .eql t (.agg cs) (.agg ds) = (do pure (.bool (← Op.equal t (.agg cs) (.agg ds)))) := rfl
          simp [execOp, hx, hy, hg, this, hrun']
        · have : binOp .neq t (.agg cs) (.agg ds) = (do pure (.bool (!(← Op.equal t (.agg cs) (.agg ds))))) := rfl
          simp [execOp, hx, hy, hg, this, hrun']
      · cases ha
  · simp only [Option.map_eq_some_iff, Prod.mk.injEq] at hc
    obtain ⟨e, he, rfl, rfl⟩ := hc
    obtain ⟨a, b, rfl, h1, h2⟩ := hv.map2
    simp only [aP, pEq, Option.map_eq_some_iff] at ha
    obtain ⟨r, hr, rfl⟩ := ha
    refine ⟨.bool (if neg then !r else r), .bool _, fun w => ?_⟩
    have := run_eq_flat he hr h1 h2 x y w
    rcases hop with ⟨rfl, rfl⟩ | ⟨rfl, rfl⟩
    · simp [execOp, this.1.1, this.1.2]
    · simp [execOp, this.2.1, this.2.2]

theorem sound_slice {t : TypeId} {x : Operand} {lo hi mx : Option Operand} {k : AK} {xs : List Operand} {vs : List AV} {v : AV} {dst : Option Tmp} {ty : TypeId} {pos : String} {af : Array Edge} {g : Option (Nat × Bool)}
    (hc : ckOp P (.slice t x lo hi mx) = some (k, xs)) (ha : aP k vs = some v) (hv : VRL ρ vs (xs.map ev)) : PureTo P ρ (execOp ev ⟨dst, .slice t x lo hi mx, ty, pos, af, g⟩) v := by
  have hopt : ∀ y : Option Operand, (optL y).map ev = (y.map ev).toList := fun y => by cases y <;> rfl
  have hiso : ∀ y : Option Operand, (y.map ev).isSome = y.isSome := fun y => by cases y <;> rfl
  have hexec : execOp ev ⟨dst, .slice t x lo hi mx, ty, pos, af, g⟩ = (do pure (.value (← Instr.sliceAt t (ev x) (lo.map ev) (hi.map ev) (mx.map ev)))) := rfl
  simp only [ckOp] at hc
  split at hc
  · rename_i e hu
    simp only [Option.bind_eq_some_iff] at hc
    obtain ⟨s, hs, hc⟩ := hc
    split at hc
    · rename_i hs0
      cases hc
      cases hv with
      | cons hx hv =>
        rename_i a vs
        rw [List.map_append, List.map_append, hopt, hopt, hopt, List.append_assoc] at hv
        simp only [aP, pSlice] at ha
        split at ha
        · rename_i b o len cap s' vs' he
          simp only [List.cons.injEq] at he
          obtain ⟨rfl, rfl⟩ := he
          split at ha
          · rename_i hss
            simp only [Option.map_eq_some_iff] at ha
            obtain ⟨⟨l, h, m⟩, hb, rfl⟩ := ha
            rw [← hiso lo, ← hiso hi, ← hiso mx] at hb
            obtain ⟨L, a, cap', hxe, hρ, hlc, hcc, hspot, hex, haddr, hlim⟩ := hx.sl_inv
            have hr := fun w => sliceBounds_run (P := P) hlc hcc hb hv w true
            obtain ⟨_, hlh, hhm, hmx, hmc⟩ := hr default
            generalize hM : (if (mx.map ev).isSome = true then m else cap') = M at hr
            have hM1 : mx.isSome = true → M = m := fun e => by rw [← hM, if_pos (by rw [hiso]; exact e)]
            have hM2 : mx.isSome = false → M = cap' ∧ m = cap := fun e => ⟨by rw [← hM, if_neg (by rw [hiso, e]; simp)], hmx (by rw [hiso]; exact e)⟩
            have hMm : m ≤ M := by
              cases e : mx.isSome with
              | true => rw [hM1 e]; exact Nat.le_refl _
              | false => rw [(hM2 e).1]; omega
            dsimp only
            refine ⟨.slice (some (if M = l then a else a.add (l * s))) (h - l) (M - l), ?_, fun w => ?_⟩
            · have hsp : (if M = l then a else a.add (l * s)).spot = none := by
                split
                · exact hspot
                · simp [Addr.add]; split <;> simp [hspot]
              have had : 0 < M - l → (if M = l then a else a.add (l * s)) = L.addr (o + l * s) := by
                intro hp
                have : 0 < cap' := by
                  cases e : mx.isSome with
                  | true => have := hM1 e; omega
                  | false => have := hM2 e; omega
                rw [if_neg (by omega), haddr this, addr_add]
              cases e : mx.isSome with
              | true =>
                obtain rfl := hM1 e
                simp only [if_true]
                exact .mk_sl hρ (by omega) (Nat.le_refl _) hsp (fun _ => rfl) had (fun _ h => absurd h (by omega))
              | false =>
                obtain ⟨rfl, rfl⟩ := hM2 e
                simp only [Bool.false_eq_true, if_false]
                refine .mk_sl hρ (by omega) (by omega) hsp (fun e => by have := hex e; omega) had (fun h1 h2 => ?_)
                have hs' : s' = s := by rcases hss with h | h <;> omega
                subst hs'
                have := hlim (by omega) h2
                have e1 : (M - l) * s' + l * s' = M * s' := by rw [← Nat.add_mul]; congr 1; omega
                omega
            · rw [hexec]
              simp [Instr.sliceAt, run_underlying hu, Instr.slice, hxe, (hr w).1, run_sizeOf hs]
              split <;> rfl
          · cases ha
        · rename_i vs' he
          simp only [List.cons.injEq] at he
          obtain ⟨rfl, rfl⟩ := he
          simp only [Option.map_eq_some_iff] at ha
          obtain ⟨⟨l, h, m⟩, hb, rfl⟩ := ha
          rw [← hiso lo, ← hiso hi, ← hiso mx] at hb
          cases hxe : ev x <;> rw [hxe] at hx <;> cases hx
          have hr := fun w => sliceBounds_run (P := P) (Nat.le_refl 0) (Nat.le_refl 0) hb hv w true
          obtain ⟨_, hlh, hhm, hmx, hmc⟩ := hr default
          refine ⟨.slice none 0 0, .nils, fun w => ?_⟩
          rw [hexec]
          have e1 : l = 0 := by omega
          have e2 : h = 0 := by omega
          have e3 : m = 0 := by omega
          subst e1 e2 e3
          simp [Instr.sliceAt, run_underlying hu, Instr.slice, hxe, (hr w).1, run_sizeOf hs]
        · cases ha
    · cases hc
  · rename_i n e hu
    simp only [Option.bind_eq_some_iff] at hc
    obtain ⟨s, hs, hc⟩ := hc
    split at hc
    · rename_i hs0
      cases hc
      cases hv with
      | cons hx hv =>
        rename_i a vs
        rw [List.map_append, List.map_append, hopt, hopt, hopt, List.append_assoc] at hv
        simp only [aP, pSliceArr] at ha
        split at ha
        · rename_i b o vs' he
          simp only [List.cons.injEq] at he
          obtain ⟨rfl, rfl⟩ := he
          simp only [Option.map_eq_some_iff] at ha
          obtain ⟨⟨l, h, m⟩, hb, rfl⟩ := ha
          rw [← hiso lo, ← hiso hi, ← hiso mx] at hb
          cases hxe : ev x <;> rw [hxe] at hx <;> cases hx
          rename_i L hρ
          have hr := fun w => sliceBounds_run (P := P) (Nat.le_refl n) (Nat.le_refl n) hb hv w false
          obtain ⟨_, hlh, hhm, hmx, hmc⟩ := hr default
          dsimp only
          refine ⟨.slice (some (if m = l then L.addr o else (L.addr o).add (l * s))) (h - l) (m - l), ?_, fun w => ?_⟩
          · refine .sl hρ (by omega) ?_ ?_
            · split
              · rfl
              · rw [addr_add]; rfl
            · intro hp
              rw [if_neg (by omega), addr_add]
          · have hmm : (if (mx.map ev).isSome = true then m else n) = m := by
              split
              · rfl
              · rename_i hn; exact (hmx (by simpa using hn)).symm
            have hr' := (hr w).1
            rw [hmm] at hr'
            rw [hexec]
            simp [Instr.sliceAt, run_underlying hu, Instr.sureAddr, hxe, hr', run_sizeOf hs]
        · cases ha
    · cases hc
  · cases hc

theorem fieldPlace_run {f : Field} {n : Nat} (h : sizeD P f.type = some (n + 1)) (a : Addr) (w : World) : (fieldPlace a f).run P w = .ok (a.add f.offset) w := by
  simp [fieldPlace, run_sizeOf h]

theorem zeroD_run {t : TypeId} {z : List AV} (h : zeroD P t = some z) : z.all AV.flat = true ∧ ∃ v : Value, VRL ρ z v.cells.toList ∧ ∀ w, (zeroValue t).run P w = .ok v w := by
  unfold zeroD at h
  simp only [Option.bind_eq_some_iff] at h
  obtain ⟨i, hi, v, hv, hz⟩ := h
  exact ⟨ofCells_flat hz, v, ofCells_VRL hz, fun w => by simp [zeroValue, typeInfo, hi, hv]⟩

theorem mapM_sizes (fs : Array Field) (h : fs.toList.all (fun f => (sizeD P f.type).isSome) = true) (w : World) :
    (fs.mapM (fun (f : Field) => (do pure (f.offset, ← sizeOf f.type) : Sem (Nat × Nat)))).run P w = .ok (fs.map fun f => (f.offset, (sizeD P f.type).getD 0)) w := by
  have e0 : (fun (f : Field) => (do pure (f.offset, ← sizeOf f.type) : Sem (Nat × Nat))) = fun f => Prod.mk f.offset <$> sizeOf f.type := by
    funext f; simp
  rw [Array.mapM_eq_mapM_toList, e0]
  have key : ∀ (l : List Field), l.all (fun f => (sizeD P f.type).isSome) = true →
      (l.mapM (fun (f : Field) => Prod.mk f.offset <$> sizeOf f.type)).run P w = .ok (l.map fun f => (f.offset, (sizeD P f.type).getD 0)) w := by
    intro l
    induction l with
    | nil => intro _; simp
    | cons f l ih =>
      intro hl
      simp only [List.all_cons, Bool.and_eq_true] at hl
      obtain ⟨n, hn⟩ := Option.isSome_iff_exists.1 hl.1
      simp [run_sizeOf hn, ih hl.2, hn]
  simp only [Sem.run_map, key fs.toList h, Result.andThen_ok]
  congr 1
  apply Array.ext'
  simp

theorem sound_build {t : TypeId} {parts : Array (Nat × Operand)} {k : AK} {xs : List Operand} {vs : List AV} {v : AV} {dst : Option Tmp} {ty : TypeId} {pos : String} {af : Array Edge} {g : Option (Nat × Bool)}
    (hc : ckOp P (.build t parts) = some (k, xs)) (ha : aP k vs = some v) (hv : VRL ρ vs (xs.map ev)) : PureTo P ρ (execOp ev ⟨dst, .build t parts, ty, pos, af, g⟩) v := by
  have hexec : execOp ev ⟨dst, .build t parts, ty, pos, af, g⟩ = (do pure (.value (← Instr.build t (parts.map fun (i, x) => (i, ev x))))) := rfl
  have hzip : ∀ l : List (Nat × Operand), l.map (fun (i, x) => (i, ev x)) = (l.map (·.1)).zip ((l.map (·.2)).map ev) := by
    intro l
    induction l with
    | nil => rfl
    | cons p l ih => simp [ih]
  simp only [ckOp, Option.bind_eq_some_iff] at hc
  obtain ⟨z, hz, hc⟩ := hc
  obtain ⟨hzf, zv, hzv, hzr⟩ := zeroD_run (ρ := ρ) hz
  split at hc
  · rename_i fs hu
    simp only [Option.bind_eq_some_iff] at hc
    obtain ⟨ps, hps, hc⟩ := hc
    split at hc
    · rename_i hall
      cases hc
      simp only [aP, Option.map_eq_some_iff] at ha
      obtain ⟨r, hr, rfl⟩ := ha
      have hmap : ((parts.toList.map (·.1)).map fun i => (fs.map fun f => (f.offset, (sizeD P f.type).getD 0))[i]?) = ps.map some := by
        clear hv hr
        generalize parts.toList.map (·.1) = idx at hps
        induction idx generalizing ps with
        | nil => simp at hps; subst hps; rfl
        | cons i idx ih =>
          simp only [List.mapM_cons, Option.bind_eq_bind, Option.bind_eq_some_iff, Option.pure_def, Option.some.injEq] at hps
          obtain ⟨p, hp, ps', hps', rfl⟩ := hps
          rw [List.map_cons, List.map_cons, ih _ hps']
          congr 1
          obtain ⟨g, hg, hp⟩ := hp
          simp only [Option.map_eq_some_iff] at hp
          obtain ⟨s, hs, rfl⟩ := hp
          simp [hg, hs]
      obtain ⟨r', h1, h2, h3⟩ := aFill_run (place := fun i => (fs.map fun f => (f.offset, (sizeD P f.type).getD 0))[i]?) ps z vs r zv.cells (parts.toList.map (·.1)) _ hr hzv hzf hv hmap
      refine ⟨.agg r', (.mk_agg' h2 h3), fun w => ?_⟩
      rw [hexec]
      have hm := mapM_sizes (P := P) fs hall w
      simp only [Instr.build, Sem.run_bind, hzr, Result.andThen_ok, run_underlying hu, hm]
      rw [Array.toList_map, hzip, h1]
      simp
    · cases hc
  · rename_i n e hu
    simp only [Option.map_eq_some_iff] at hc
    obtain ⟨s, hs, hc⟩ := hc
    cases hc
    simp only [aP, Option.map_eq_some_iff] at ha
    obtain ⟨r, hr, rfl⟩ := ha
    obtain ⟨r', h1, h2, h3⟩ := aFill_run (place := fun i => some (i * s, s)) _ z vs r zv.cells (parts.toList.map (·.1)) _ hr hzv hzf hv (by simp)
    refine ⟨.agg r', (.mk_agg' h2 h3), fun w => ?_⟩
    rw [hexec]
    simp only [Instr.build, Sem.run_bind, hzr, Result.andThen_ok, run_underlying hu, run_sizeOf hs]
    rw [Array.toList_map, hzip, h1]
    simp
  · cases hc

set_option maxHeartbeats 1000000 in
theorem pure_sound {o : Oper} {k : AK} {xs : List Operand} {vs : List AV} {v : AV} (hc : ckOp P o.op = some (k, xs)) (hk : k.cls = .pure) (ha : aP k vs = some v) (hv : VRL ρ vs (xs.map ev)) :
    PureTo P ρ (execOp ev o) v := by
  obtain ⟨dst, op, ty, pos, af, g⟩ := o
  cases op
  case move x =>
    cases hc
    obtain ⟨a, rfl, h1⟩ := hv.map1
    cases ha
    exact ⟨_, h1, fun w => rfl⟩
  case assign x =>
    cases hc
    obtain ⟨a, rfl, h1⟩ := hv.map1
    cases ha
    exact ⟨_, h1, fun w => rfl⟩
  case pick c a b =>
    cases hc
    obtain ⟨x, y, z, rfl, h1, h2, h3⟩ := VRL.three hv
    simp only [aP, pPick] at ha
    split at ha
    · rename_i c' a' b' he
      simp only [List.cons.injEq, and_true] at he
      obtain ⟨rfl, rfl, rfl⟩ := he
      cases ha
      cases hx : ev c <;> rw [hx] at h1 <;> cases h1
      cases c'
      · exact ⟨_, h3, fun w => by simp [execOp, hx, asBool]⟩
      · exact ⟨_, h2, fun w => by simp [execOp, hx, asBool]⟩
    · cases ha
  case nilCheck x =>
    cases hc
    obtain ⟨a, rfl, h1⟩ := hv.map1
    simp only [aP, pNil] at ha
    split at ha
    · rename_i b o he
      simp only [List.cons.injEq, and_true] at he
      subst he
      cases ha
      cases hx : ev x <;> rw [hx] at h1 <;> cases h1
      rename_i h
      exact ⟨_, .ptr h, fun w => by simp [execOp, hx]⟩
    · rename_i f a b he
      simp only [List.cons.injEq, and_true] at he
      subst he
      cases ha
      refine ⟨ev x, h1, fun w => ?_⟩
      cases hx : ev x <;> rw [hx] at h1 <;> cases h1
      simp [execOp, hx]
    · cases ha
  case binOp op t x y yt =>
    cases op <;> simp only [ckOp] at hc
    case shl => cases hc; exact sound_shift (.inl rfl) ha hv
    case shr => cases hc; exact sound_shift (.inr rfl) ha hv
    case lss => cases hc; exact sound_cmp (.inl rfl) ha hv
    case leq => cases hc; exact sound_cmp (.inr (.inl rfl)) ha hv
    case gtr => cases hc; exact sound_cmp (.inr (.inr (.inl rfl))) ha hv
    case geq => cases hc; exact sound_cmp (.inr (.inr (.inr rfl))) ha hv
    case eql => exact sound_eq (.inl ⟨rfl, rfl⟩) hc ha hv
    case neq => exact sound_eq (.inr ⟨rfl, rfl⟩) hc ha hv
    all_goals (cases hc; exact sound_arith (by simp) ha hv)
  case unOp op t x =>
    cases op <;> simp only [ckOp] at hc
    case not =>
      cases hc
      obtain ⟨a, rfl, h1⟩ := hv.map1
      simp only [aP, pNot] at ha
      split at ha
      · rename_i b he
        simp only [List.cons.injEq, and_true] at he
        subst he
        cases ha
        cases hx : ev x <;> rw [hx] at h1 <;> cases h1
        exact ⟨_, .bool _, fun w => by simp [execOp, hx, Op.unary]⟩
      · cases ha
    case neg =>
      cases hc
      obtain ⟨a, rfl, h1⟩ := hv.map1
      simp only [aP, pNeg] at ha
      split at ha
      · rename_i k n he
        simp only [List.cons.injEq, and_true] at he
        subst he
        cases ha
        cases hx : ev x <;> rw [hx] at h1 <;> cases h1
        exact ⟨_, .int _ _, fun w => by simp [execOp, hx, Op.unary, Op.intArith]⟩
      · cases ha
    case xor =>
      cases hc
      obtain ⟨a, rfl, h1⟩ := hv.map1
      simp only [aP, pBnot] at ha
      split at ha
      · rename_i k n he
        simp only [List.cons.injEq, and_true] at he
        subst he
        simp only [aArith, Option.map_some, Option.some.injEq] at ha
        subst ha
        cases hx : ev x <;> rw [hx] at h1 <;> cases h1
        exact ⟨_, .int _ _, fun w => by simp [execOp, hx, Op.unary, Op.intBits]⟩
      · cases ha
    all_goals cases hc
  case convert src dst' x =>
    simp only [ckOp] at hc
    split at hc
    · rename_i k1 k2 h1 h2
      cases hc
      obtain ⟨a, rfl, hx1⟩ := hv.map1
      simp only [aP, pConv] at ha
      split at ha
      · rename_i k n he
        simp only [List.cons.injEq, and_true] at he
        subst he
        cases ha
        cases hx : ev x <;> rw [hx] at hx1 <;> cases hx1
        exact ⟨_, .int _ _, fun w => by simp [execOp, hx, convert, run_underlying h1, run_underlying h2, Conv.intToInt]⟩
      · cases ha
    · cases hc
  case sliceToArrayPointer arr x =>
    simp only [ckOp] at hc
    split at hc
    · rename_i n e hu
      cases hc
      obtain ⟨a, rfl, hx1⟩ := hv.map1
      simp only [aP, pArrPtr] at ha
      split at ha
      · rename_i b o len cap s he
        simp only [List.cons.injEq, and_true] at he
        subst he
        split at ha
        · rename_i hn
          cases ha
          obtain ⟨L, a, cap', hx, hρ, hlc, hcc, hspot, _, haddr, _⟩ := hx1.sl_inv
          refine ⟨.pointer (some (L.addr o)), .ptr hρ, fun w => ?_⟩
          rw [haddr (by omega)] at hx
          simp [execOp, hx, Instr.arrayAt, run_underlying hu, show ¬ len < n by omega]
        · cases ha
      · cases ha
    · cases hc
  case makeFunc fn first captured =>
    cases fn <;> simp only [ckOp, Option.some.injEq, Prod.mk.injEq, reduceCtorEq] at hc
    rename_i f
    obtain ⟨rfl, rfl⟩ := hc
    simp only [aP, Option.some.injEq] at ha
    subst ha
    refine ⟨.func (.func f) (first.map ev) (captured.map ev), ?_, fun w => rfl⟩
    have h1 := hv.take first.size
    have h2 := hv.drop first.size
    have e1 : ∀ (a : Array Operand), (a.map ev).toList = a.toList.map ev := fun a => by simp
    rw [List.map_append] at h1 h2
    rw [List.take_left' (by simp)] at h1
    rw [List.drop_left' (by simp)] at h2
    refine .fn (by simpa using h1.length) (by simpa using h2.length) (fun i x y a b => h1.get i x y a ?_) (fun i x y a b => h2.get i x y a ?_)
    · rw [← e1]; simpa using b
    · rw [← e1]; simpa using b
  case slice t x lo hi mx => exact sound_slice hc ha hv
  case fieldAddr t x f =>
    simp only [ckOp] at hc
    split at hc
    · rename_i fs hu
      simp only [Option.bind_eq_some_iff] at hc
      obtain ⟨fl, hf, hc⟩ := hc
      split at hc
      · rename_i n hs
        cases hc
        obtain ⟨a, rfl, hx1⟩ := hv.map1
        simp only [aP, pFieldAddr] at ha
        split at ha
        · rename_i b o he
          simp only [List.cons.injEq, and_true] at he
          subst he
          cases ha
          cases hx : ev x <;> rw [hx] at hx1 <;> cases hx1
          rename_i L hρ
          refine ⟨_, .ptr hρ, fun w => ?_⟩
          simp [execOp, hx, Instr.fieldAt, run_underlying hu, hf, Instr.sureAddr, fieldPlace_run hs, addr_add]
        · cases ha
      · cases hc
    · cases hc
  case field t x f =>
    simp only [ckOp] at hc
    split at hc
    · rename_i fs hu
      simp only [Option.bind_eq_some_iff, Option.map_eq_some_iff] at hc
      obtain ⟨fl, hf, s, hs, gg, hg, hc⟩ := hc
      cases hc
      obtain ⟨a, rfl, hx1⟩ := hv.map1
      simp only [aP, pPart] at ha
      split at ha
      · rename_i l he
        simp only [List.cons.injEq, and_true] at he
        subst he
        obtain ⟨cs, hx, hcs⟩ := hx1.agg_inv
        obtain ⟨v', h1, h2⟩ := aggT_part (P := P) hs hg hcs hx1.agg_flat ha
        exact ⟨v', h1, fun w => by simp [execOp, hx, Instr.field, run_underlying hu, hf, asAgg, h2]⟩
      · cases ha
    · cases hc
  case indexAddr t x i =>
    simp only [ckOp] at hc
    split at hc
    · rename_i e hu
      simp only [Option.map_eq_some_iff] at hc
      obtain ⟨s, hs, hc⟩ := hc
      cases hc
      obtain ⟨a, b, rfl, h1, h2⟩ := hv.map2
      simp only [aP, pIdxAddr] at ha
      split at ha
      · rename_i b o len cap s' k n he
        simp only [List.cons.injEq, and_true] at he
        obtain ⟨rfl, rfl⟩ := he
        split at ha
        · rename_i hn
          cases ha
          obtain ⟨L, a, cap', hx, hρ, hlc, hcc, hspot, _, haddr, _⟩ := h1.sl_inv
          rw [haddr (by omega)] at hx
          cases hi : ev i <;> rw [hi] at h2 <;> cases h2
          refine ⟨_, .ptr hρ, fun w => ?_⟩
          simp [execOp, hx, hi, Instr.indexAt, asIntOf, run_underlying hu, hn, run_sizeOf hs, addr_add]
        · cases ha
      · cases ha
    · rename_i n e hu
      simp only [Option.map_eq_some_iff] at hc
      obtain ⟨s, hs, hc⟩ := hc
      cases hc
      obtain ⟨a, b, rfl, h1, h2⟩ := hv.map2
      simp only [aP, pIdxAddrArr] at ha
      split at ha
      · rename_i b o k i' he
        simp only [List.cons.injEq, and_true] at he
        obtain ⟨rfl, rfl⟩ := he
        split at ha
        · rename_i hn
          cases ha
          cases hx : ev x <;> rw [hx] at h1 <;> cases h1
          rename_i L hρ
          cases hi : ev i <;> rw [hi] at h2 <;> cases h2
          refine ⟨_, .ptr hρ, fun w => ?_⟩
          simp [execOp, hx, hi, Instr.indexAt, asIntOf, run_underlying hu, hn, run_sizeOf hs, addr_add, Instr.sureAddr]
        · cases ha
      · cases ha
    · cases hc
  case index t x i =>
    simp only [ckOp] at hc
    split at hc
    · rename_i n e hu
      simp only [Option.bind_eq_some_iff, Option.map_eq_some_iff] at hc
      obtain ⟨s, hs, gg, hg, hc⟩ := hc
      cases hc
      obtain ⟨a, b, rfl, h1, h2⟩ := hv.map2
      simp only [aP, pIdxArr] at ha
      split at ha
      · rename_i l k i' he
        simp only [List.cons.injEq, and_true] at he
        obtain ⟨rfl, rfl⟩ := he
        split at ha
        · rename_i hn
          obtain ⟨cs, hx, hcs⟩ := h1.agg_inv
          cases hi : ev i <;> rw [hi] at h2 <;> cases h2
          obtain ⟨v', h1, h2⟩ := aggT_part (P := P) hs hg hcs h1.agg_flat ha
          exact ⟨v', h1, fun w => by simp [execOp, hx, hi, Instr.index, asIntOf, run_underlying hu, hn, run_sizeOf hs, h2]⟩
        · cases ha
      · cases ha
    · rename_i hu
      cases hc
      obtain ⟨a, b, rfl, h1, h2⟩ := hv.map2
      simp only [aP, pIdxStr] at ha
      split at ha
      · rename_i s k i' he
        simp only [List.cons.injEq, and_true] at he
        obtain ⟨rfl, rfl⟩ := he
        split at ha
        · rename_i hn
          simp only [Option.map_eq_some_iff] at ha
          obtain ⟨bb, hb, rfl⟩ := ha
          cases hx : ev x <;> rw [hx] at h1 <;> cases h1
          cases hi : ev i <;> rw [hi] at h2 <;> cases h2
          exact ⟨_, .int _ _, fun w => by simp [execOp, hx, hi, Instr.index, asIntOf, run_underlying hu, hn, hb]⟩
        · cases ha
      · cases ha
    · cases hc
  case extract x i =>
    cases hc
    obtain ⟨a, rfl, hx1⟩ := hv.map1
    simp only [aP, pExtract] at ha
    split at ha
    · rename_i l he
      simp only [List.cons.injEq, and_true] at he
      subst he
      obtain ⟨cs, hx, hcs⟩ := hx1.tup_inv
      have hlt := lt_of_get ha
      have hl := hcs.length
      simp only [Array.length_toList] at hl
      have hg : cs[i]? = some cs[i] := by simp [show i < cs.size by omega]
      refine ⟨cs[i], hcs.get i v _ ha (by simp), fun w => ?_⟩
      simp [execOp, hx, Instr.extract, hg]
    · cases ha
  case build t parts => exact sound_build hc ha hv
  case makeInterface t x =>
    simp only [ckOp] at hc
    split at hc
    · cases hc
    · rename_i d hd hu
      cases hc
      obtain ⟨a, rfl, hx1⟩ := hv.map1
      cases ha
      refine ⟨_, .iface hx1, fun w => ?_⟩
      have : ∀ ms, d ≠ .interface ms := fun ms e => hd ms e
      simp only [execOp, Sem.run_bind, Instr.makeInterface, run_underlying hu, Result.andThen_ok]
      cases d <;> simp_all
    · cases hc
  case load t a =>
    simp only [ckOp, Option.bind_eq_some_iff] at hc
    obtain ⟨s, _, gg, _, hc⟩ := hc
    split at hc <;> cases hc
    cases hk
  case alloc t =>
    simp only [ckOp, Option.map_eq_some_iff] at hc
    obtain ⟨s, _, hc⟩ := hc
    cases hc
    cases hk
  case box t a => cases hc; cases hk
  case makeSlice t a b =>
    simp only [ckOp] at hc
    split at hc
    · simp only [Option.bind_eq_some_iff] at hc
      obtain ⟨s, _, gg, _, hc⟩ := hc
      split at hc <;> cases hc
      cases hk
    · cases hc
  case buildSlice t a b =>
    simp only [ckOp] at hc
    split at hc
    · simp only [Option.bind_eq_some_iff] at hc
      obtain ⟨s, _, hc⟩ := hc
      split at hc <;> cases hc
      cases hk
    · cases hc
  case store t a v' =>
    simp only [ckOp, Option.map_eq_some_iff] at hc
    obtain ⟨s, _, hc⟩ := hc
    cases hc
    cases hk
  case call c =>
    obtain ⟨callee, args, argTypes⟩ := c
    cases callee with
    | invoke r m => simp [ckOp] at hc
    | value f =>
      cases f <;> simp only [ckOp, Option.some.injEq, Prod.mk.injEq] at hc <;> obtain ⟨rfl, _⟩ := hc <;> cases hk
    | builtin b =>
      cases b <;> simp only [ckOp, reduceCtorEq] at hc
      case len =>
        have hexec : ∀ x, args.toList = [x] → ∀ w, (execOp ev ⟨dst, .call ⟨.builtin .len, args, argTypes⟩, ty, pos, af, g⟩).run P w = ((Builtin.len_ argTypes ty #[ev x]).run P w).andThen fun v w' => .ok (.value v) w' := by
          intro x hx w
          obtain rfl : args = #[x] := by apply Array.ext'; simpa using hx
          simp [execOp, resolve, invoke, builtin]
        split at hc
        · rename_i e x hu hx
          cases hc
          simp only [Option.bind_eq_some_iff] at hu
          obtain ⟨t, ht, hu⟩ := hu
          obtain ⟨a, rfl, hx1⟩ := hv.map1
          simp only [aP, pLen] at ha
          split at ha
          · rename_i he
            simp only [List.cons.injEq, and_true] at he
            subst he; cases ha
            obtain ⟨L, a, cap', hxe, _⟩ := hx1.sl_inv
            exact ⟨_, .int _ _, fun w => by rw [hexec _ hx]; simp [Builtin.len_, ht, run_underlying hu, hxe, goInt]⟩
          · rename_i he
            simp only [List.cons.injEq, and_true] at he
            subst he; cases ha
            cases hxe : ev x <;> rw [hxe] at hx1 <;> cases hx1
            exact ⟨_, .int _ _, fun w => by rw [hexec _ hx]; simp [Builtin.len_, ht, run_underlying hu, hxe, goInt]⟩
          · cases ha
        · rename_i x hu hx
          cases hc
          simp only [Option.bind_eq_some_iff] at hu
          obtain ⟨t, ht, hu⟩ := hu
          obtain ⟨a, rfl, hx1⟩ := hv.map1
          simp only [aP, pLenStr] at ha
          split at ha
          · rename_i he
            simp only [List.cons.injEq, and_true] at he
            subst he; cases ha
            cases hxe : ev x <;> rw [hxe] at hx1 <;> cases hx1
            exact ⟨_, .int _ _, fun w => by rw [hexec _ hx]; simp [Builtin.len_, ht, run_underlying hu, hxe, goInt]⟩
          · cases ha
        · rename_i n e x hu hx
          cases hc
          simp only [Option.bind_eq_some_iff] at hu
          obtain ⟨t, ht, hu⟩ := hu
          obtain ⟨a, rfl, hx1⟩ := hv.map1
          cases ha
          exact ⟨_, .int _ _, fun w => by rw [hexec _ hx]; simp [Builtin.len_, ht, run_underlying hu, goInt]⟩
        · cases hc
      case min =>
        split at hc
        · rename_i x y hx
          cases hc
          obtain rfl : args = #[x, y] := by apply Array.ext'; simpa using hx
          obtain ⟨a, b, rfl, h1, h2⟩ := hv.map2
          simp only [aP, pMin] at ha
          split at ha
          · rename_i he
            simp only [List.cons.injEq, and_true] at he
            obtain ⟨rfl, rfl⟩ := he
            cases ha
            cases hx : ev x <;> rw [hx] at h1 <;> cases h1
            cases hy : ev y <;> rw [hy] at h2 <;> cases h2
            exact ⟨_, .int _ _, fun w => by simp [execOp, resolve, invoke, builtin, hx, hy, Builtin.min_, Builtin.min2]⟩
          · cases ha
        · cases hc
      case max =>
        split at hc
        · rename_i x y hx
          cases hc
          obtain rfl : args = #[x, y] := by apply Array.ext'; simpa using hx
          obtain ⟨a, b, rfl, h1, h2⟩ := hv.map2
          simp only [aP, pMax] at ha
          split at ha
          · rename_i he
            simp only [List.cons.injEq, and_true] at he
            obtain ⟨rfl, rfl⟩ := he
            cases ha
            cases hx : ev x <;> rw [hx] at h1 <;> cases h1
            cases hy : ev y <;> rw [hy] at h2 <;> cases h2
            exact ⟨_, .int _ _, fun w => by simp [execOp, resolve, invoke, builtin, hx, hy, Builtin.max_, Builtin.max2]⟩
          · cases ha
        · cases hc
      case append =>
        split at hc
        · split at hc
          · simp only [Option.bind_eq_some_iff] at hc
            obtain ⟨z, _, b, _, hc⟩ := hc
            split at hc <;> cases hc
            cases hk
          · cases hc
        · cases hc
      case copy =>
        split at hc
        · split at hc
          · simp only [Option.bind_eq_some_iff] at hc
            obtain ⟨z, _, hc⟩ := hc
            split at hc <;> cases hc
            cases hk
          · cases hc
        · cases hc
  all_goals simp [ckOp] at hc
end
end Go.Adm
