/- Abstract code, and what its operations come to in the world. -/
import Derived.Test.YthdkclkiegkabaaAdmI
namespace Go.Adm

def undefA : AV := .tup []

structure AOper where
  dst : Option Nat
  k : AK
  xs : List AX
  g : Option (Nat × Bool)
  lo : Nat
  hi : Nat

inductive ACode where
  | skip
  | ops (ks : List Nat) (l : List AOper)
  | drawn (ks : List Nat) (l : List AOper)
  | seq (a b : ACode)
  | cond (c : AX) (a b : ACode)
  | block (id : Nat) (a : ACode)
  | loop (ks : List Nat) (a : ACode)
  | exit (id : Nat)
  | ret

/-- Without the marks of what lives on. -/
def ACode.bare : ACode → ACode
  | .skip => .skip
  | .ops _ l => .ops [] l
  | .drawn _ l => .drawn [] l
  | .seq a b => .seq a.bare b.bare
  | .cond c a b => .cond c a.bare b.bare
  | .block id a => .block id a.bare
  | .loop _ a => .loop [] a.bare
  | .exit id => .exit id
  | .ret => .ret

/-- A frame: what is known of the temporaries. -/
abbrev AFr := List (Nat × AV)
def AFr.get : AFr → Nat → Option AV
  | [], _ => none
  | (i, v) :: r, n => if i = n then some v else AFr.get r n
def AFr.set : AFr → Nat → AV → AFr
  | [], n, v => [(n, v)]
  | (i, u) :: r, n, v => if i = n then (n, v) :: r else (i, u) :: AFr.set r n v
def AFr.put (t : AFr) (d : Option Nat) (v : AV) : AFr :=
  match d with
  | some n => t.set n v
  | none => t

theorem AFr.get_set (t : AFr) (n : Nat) (v : AV) (i : Nat) : (t.set n v).get i = if n = i then some v else t.get i := by
  induction t with
  | nil => simp [AFr.set, AFr.get]
  | cons p t ih =>
    obtain ⟨j, u⟩ := p
    simp only [AFr.set]
    split
    · rename_i h; subst h
      simp only [AFr.get]
      split <;> rfl
    · rename_i h
      simp only [AFr.get, ih]
      split
      · rename_i h2; subst h2
        rw [if_neg (fun e => h e.symm)]
      · rfl

def AX.eval (t : AFr) : AX → Option AV
  | .t n => t.get n
  | .c v => some v
def evalAll (t : AFr) : List AX → Option (List AV)
  | [] => some []
  | x :: r => (x.eval t).bind fun v => (evalAll t r).map (v :: ·)

/-- A frame in the world: of n temporaries at least. -/
structure FR (n : Nat) (ρ : LMap) (t : AFr) (tmps : Array Value) : Prop where
  size : n ≤ tmps.size
  at_ : ∀ i v, t.get i = some v → VR ρ v (tmps.getD i undef)

theorem FR.mono {n : Nat} {ρ ρ' : LMap} {t : AFr} {tmps : Array Value} (h : FR n ρ t tmps) (hs : Sub ρ ρ') : FR n ρ' t tmps := ⟨h.size, fun i v e => (h.at_ i v e).mono hs⟩

theorem getD_set (tmps : Array Value) (d i : Nat) (v : Value) (h : d < tmps.size) : (tmps.setIfInBounds d v).getD i undef = if d = i then v else tmps.getD i undef := by
  simp only [Array.getD_eq_getD_getElem?, Array.getElem?_setIfInBounds]
  split
  · rename_i e; subst e; simp_all
  · rfl

theorem FR.put {n : Nat} {ρ : LMap} {t : AFr} {a : Act} (h : FR n ρ t a.tmps) {d : Option Nat} (hd : ∀ x, d = some x → x < n) {v : AV} {v' : Value} (hv : VR ρ v v') :
    FR n ρ (t.put d v) (a.put d v').tmps := by
  cases d with
  | none => exact h
  | some x =>
    have hx := hd x rfl
    have hs := h.size
    refine ⟨by simp [Act.put]; exact hs, fun i u hu => ?_⟩
    simp only [AFr.put, AFr.get_set] at hu
    simp only [Act.put]
    rw [getD_set _ _ _ _ (by omega)]
    split at hu
    · cases hu; rename_i e; rw [if_pos e]; exact hv
    · rename_i e; rw [if_neg e]; exact h.at_ i u hu

/-! ## The check of a program's code -/
section
variable (P : Program)

def dstOk (n : Nat) : Option Nat → Bool
  | none => true
  | some d => decide (d < n)
def ckGuard (n : Nat) (ops : List Oper) : Option (Nat × Bool) → Option (Option (Nat × Bool))
  | none => some none
  | some (j, want) => match ops[j]? with
    | some o => o.dst.bind fun d => if d < n then some (some (d, want)) else none
    | none => none
def ckOper (n : Nat) (ops : List Oper) (o : Oper) (lo hi : Nat) : Option AOper :=
  (ckOp P o.op).bind fun p => (ckXs p.2).bind fun xs => (ckGuard n ops o.guard).bind fun g => if dstOk n o.dst then some ⟨o.dst, p.1, xs, g, lo, hi⟩ else none
def ckOpers (n : Nat) (ops : List Oper) : List Oper → Option (List AOper)
  | [] => some []
  | o :: r => (ckOper P n ops o 0 0).bind fun a => (ckOpers n ops r).map (a :: ·)
end

/-! ## What is said of a call -/

def Callable (P : Program) (f : FuncId) : Prop := ∃ fn, P.funcs[f]? = some fn ∧ (fn.name == "runtime.NumGoroutine") = false ∧ fn.body.isNone = false

/-- The call of a function with these arguments in this memory returns r and leaves the memory m'. -/
structure Eval (P : Program) (f : FuncId) (args : List AV) (m : Mem) (r : AV) (m' : Mem) : Prop where
  callable : Callable P f
  ab : AStep m m'
  to_ : ∀ (ρ : LMap) (w : World) (cargs : Array Value), Sim m ρ w → Fresh m m' ρ → VRL ρ args cargs.toList →
    Calls P f cargs w fun e w' => ∃ r' ρ', e = .returned r' ∧ VR ρ' r r' ∧ Sim m' ρ' w' ∧ Step m m' ρ ρ' w w'

/-- An operation's answer, abstract. -/
inductive OpTo (P : Program) : AK → List AV → Mem → AV → Mem → Prop where
  | pure {k : AK} {vs : List AV} {m : Mem} {v : AV} : k.cls = .pure → aP k vs = some v → OpTo P k vs m v m
  | read {k : AK} {vs : List AV} {m : Mem} {v : AV} : k.cls = .read → aR k vs m = some v → OpTo P k vs m v m
  | make {k : AK} {vs : List AV} {m : Mem} {b : Blk} {mk : Nat → AV} : k.cls = .make → aA k vs = some (b, mk) → OpTo P k vs m (mk m.length) (m ++ [b])
  | write {k : AK} {vs : List AV} {m : Mem} {v : AV} {m' : Mem} : k.cls = .write → aW k vs m = some (v, m') → OpTo P k vs m v m'
  | call {f : FuncId} {vs : List AV} {m : Mem} {v : AV} {m' : Mem} : Eval P f vs m v m' → OpTo P (.call f) vs m v m'
  | callv {f : FuncId} {fs cs vs : List AV} {m : Mem} {v : AV} {m' : Mem} : Eval P f (fs ++ vs ++ cs) m v m' → OpTo P .callv (.fn (.func f) fs cs :: vs) m v m'

theorem aStore_step {n : Nat} {p v r : AV} {m m' : Mem} (h : aStore n p v m = some (r, m')) : AStep m m' := by
  unfold aStore at h
  split at h
  · simp only [Option.bind_eq_some_iff] at h
    obtain ⟨cells, hc, h⟩ := h
    split at h <;> cases h
    exact .set (own_some hc) rfl (fun _ => ⟨rfl, rfl⟩)
  · cases h
theorem aCopy_step {n : Nat} {p v r : AV} {m m' : Mem} (h : aCopy n p v m = some (r, m')) : AStep m m' := by
  unfold aCopy at h
  simp only [Option.bind_eq_some_iff] at h
  obtain ⟨_, _, _, _, h⟩ := h
  split at h
  · cases h; exact .refl _
  · simp only [Option.bind_eq_some_iff] at h
    obtain ⟨_, _, h⟩ := h
    split at h
    · simp only [Option.bind_eq_some_iff] at h
      obtain ⟨cells, hc, h⟩ := h
      split at h <;> cases h
      exact .set (own_some hc) rfl (fun _ => ⟨rfl, rfl⟩)
    · cases h
theorem aAppend_step {n b : Nat} {p v r : AV} {m m' : Mem} (h : aAppend n b p v m = some (r, m')) : AStep m m' := by
  unfold aAppend at h
  simp only [Option.bind_eq_some_iff] at h
  obtain ⟨_, _, h⟩ := h
  split at h
  · split at h <;> cases h
    exact .refl _
  · simp only [Option.bind_eq_some_iff] at h
    obtain ⟨_, _, h⟩ := h
    split at h
    · split at h <;> cases h
      exact .push _ _
    · split at h
      · simp only [Option.bind_eq_some_iff] at h
        obtain ⟨cells, hc, h⟩ := h
        split at h <;> cases h
        exact .set (own_some hc) rfl (fun _ => ⟨rfl, rfl⟩)
      · split at h
        · simp only [Option.bind_eq_some_iff] at h
          obtain ⟨_, _, h⟩ := h
          split at h
          · cases h; exact .push _ _
          · simp only [Option.bind_eq_some_iff] at h
            obtain ⟨cells, hc, h⟩ := h
            split at h <;> cases h
            exact (AStep.set (own_some hc) rfl (fun l => by cases l)).trans (.push _ _)
        · cases h
    · cases h

theorem w2_step {f : AV → AV → Mem → Option (AV × Mem)} {m : Mem} {vs : List AV} {r : AV} {m' : Mem} (h : w2 f m vs = some (r, m')) (hf : ∀ a b, f a b m = some (r, m') → AStep m m') : AStep m m' := by
  unfold w2 at h
  split at h
  · exact hf _ _ h
  · cases h

theorem OpTo.astep {P : Program} {k : AK} {vs : List AV} {m : Mem} {v : AV} {m' : Mem} (h : OpTo P k vs m v m') : AStep m m' := by
  cases h with
  | pure => exact .refl _
  | read => exact .refl _
  | make => exact .push _ _
  | write hk h =>
    cases k <;> simp only [AK.cls, reduceCtorEq] at hk
    · exact w2_step h fun a b => aStore_step
    · exact w2_step h fun a b => aAppend_step
    · exact w2_step h fun a b => aCopy_step
  | call h => exact h.ab
  | callv h => exact h.ab

section
variable {P : Program} {Q : Exit → Act → World → Prop}

theorem eval_ck {n : Nat} {ρ : LMap} {t : AFr} {a : Act} (h : FR n ρ t a.tmps) : ∀ (os : List Operand) (xs : List AX) (vs : List AV), ckXs os = some xs → evalAll t xs = some vs → VRL ρ vs (os.map a.eval) := by
  intro os
  induction os with
  | nil => intro xs vs h1 h2; cases h1; cases h2; exact .nil
  | cons o os ih =>
    intro xs vs h1 h2
    simp only [ckXs, Option.bind_eq_some_iff, Option.map_eq_some_iff] at h1
    obtain ⟨x, hx, xs', hxs, rfl⟩ := h1
    simp only [evalAll, Option.bind_eq_some_iff, Option.map_eq_some_iff] at h2
    obtain ⟨v, hv, vs', hvs, rfl⟩ := h2
    refine .cons ?_ (ih _ _ hxs hvs)
    unfold ckX at hx
    split at hx
    · cases hx; exact h.at_ _ _ hv
    · simp only [Option.map_eq_some_iff] at hx
      obtain ⟨c, hc, rfl⟩ := hx
      cases hv
      exact ofConst_VR hc
    · cases hx; cases hv
      exact .fn rfl rfl (fun i x y h => by simp at h) (fun i x y h => by simp at h)
    · cases hx

theorem run_callFunc {f : FuncId} (h : Callable P f) (args : Array Value) (w : World) : (callFunc f args).run P w = .ok (.enter f args) w := by
  obtain ⟨fn, h1, h2, h3⟩ := h
  have h2' : ¬ fn.name = "runtime.NumGoroutine" := by simpa using h2
  have h3' : ¬ fn.body = none := by
    intro e
    rw [e] at h3
    cases h3
  simp [callFunc, h1, h2', h3']

/-- One operation of the program, as its abstract one. -/
theorem op_exec {o : Oper} {k : AK} {xs : List Operand} (hc : ckOp P o.op = some (k, xs)) {vs : List AV} {m m' : Mem} {v : AV} (hop : OpTo P k vs m v m') {ρ : LMap} {w : World} {a : Act}
    (hs : Sim m ρ w) (hf : Fresh m m' ρ) (hv : VRL ρ vs (xs.map a.eval)) {K : Act → World → Prop}
    (hK : ∀ v' w' ρ', VR ρ' v v' → Sim m' ρ' w' → Step m m' ρ ρ' w w' → K (a.put o.dst v') w') : o.wp P a w K Q := by
  unfold Oper.wp
  cases hop with
  | pure hk ha =>
    obtain ⟨v', h1, h2⟩ := pure_sound hc hk ha hv
    rw [h2 w, Oper.upon_value]
    exact hK _ _ _ h1 hs (.refl _ _ _)
  | read hk ha =>
    obtain ⟨v', h1, h2⟩ := read_sound hc hk ha hv hs
    rw [h2, Oper.upon_value]
    exact hK _ _ _ h1 hs (.refl _ _ _)
  | make hk ha =>
    rename_i b mk
    obtain ⟨cells, ob, lim, v', rfl, h1, h2, h3⟩ := (make_sound (w := w) hc hk ha hv).ex
    rw [h1, Oper.upon_value]
    have hfr : ρ m.length = none := hf _ (Nat.le_refl _) (by simp)
    obtain ⟨g1, g2⟩ := hs.newgrow (d := m) rfl (fun _ _ h _ => h) (.refl m) ob lim cells hfr h2
    exact hK _ _ _ (h3 _ _ (upd_same _ _ _)) g1 g2
  | write hk ha =>
    obtain ⟨nx, v', w', ρ', h1, h2, h3, h4, h5⟩ := write_sound hc hk ha hv hs hf
    rw [h1]
    rcases h2 with rfl | ⟨rfl, rfl⟩
    · rw [Oper.upon_value]; exact hK _ _ _ h3 h4 h5
    · rw [Oper.upon_skip]; exact hK _ _ _ h3 h4 h5
  | call he =>
    rename_i f
    obtain ⟨dst, op, ty, pos, af, g⟩ := o
    have hcls := ck_cls hc
    cases op <;> simp [opCls, AK.cls] at hcls
    rename_i c
    obtain ⟨callee, args, at_⟩ := c
    cases callee with
    | builtin b => cases b <;> simp at hcls
    | invoke r n => simp at hcls
    | value x =>
      cases x <;> simp [ckOp] at hc
      rename_i f'
      obtain ⟨rfl, rfl⟩ := hc
      have hrun : (execOp a.eval ⟨dst, .call ⟨.value (.func f'), args, at_⟩, ty, pos, af, g⟩).run P w = .ok (.enter f' (args.map a.eval)) w := by
        simp [execOp, resolve, Act.eval, Deferred.ofValue, invoke, run_callFunc he.callable]
      rw [hrun, Oper.upon_enter]
      refine (he.to_ ρ w _ hs hf (by simpa using hv)).mono fun e w' h => ?_
      obtain ⟨r', ρ', rfl, h1, h2, h3⟩ := h
      exact hK _ _ _ h1 h2 h3
  | callv he =>
    rename_i f fs cs vs
    obtain ⟨dst, op, ty, pos, af, g⟩ := o
    have hcls := ck_cls hc
    cases op <;> simp [opCls, AK.cls] at hcls
    rename_i c
    obtain ⟨callee, args, at_⟩ := c
    cases callee with
    | builtin b => cases b <;> simp at hcls
    | invoke r n => simp at hcls
    | value x =>
      have hx : xs = x :: args.toList := by
        cases x <;> simp [ckOp] at hc <;> exact hc.symm
      subst hx
      cases hv with
      | cons hfv hv =>
        have hfv0 := hfv
        generalize hxe : a.eval x = fv at hfv
        cases hfv with
        | fn l1 l2 a1 a2 =>
          rename_i fs' cs'
          have hrun : (execOp a.eval ⟨dst, .call ⟨.value x, args, at_⟩, ty, pos, af, g⟩).run P w = .ok (.enter f (fs' ++ args.map a.eval ++ cs')) w := by
            simp [execOp, resolve, hxe, Deferred.ofValue, invoke, run_callFunc he.callable]
          rw [hrun, Oper.upon_enter]
          have b1 : VRL ρ fs fs'.toList := .of _ _ (by simpa using l1) fun i x y h k => a1 i x y h (by simpa using k)
          have b2 : VRL ρ cs cs'.toList := .of _ _ (by simpa using l2) fun i x y h k => a2 i x y h (by simpa using k)
          refine (he.to_ ρ w _ hs hf (by simpa using (b1.append hv).append b2)).mono fun e w' h => ?_
          obtain ⟨r', ρ', rfl, h1, h2, h3⟩ := h
          exact hK _ _ _ h1 h2 h3
end
end Go.Adm
