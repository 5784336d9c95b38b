/- Pure operations: an operation of a program answers what the abstract one answers. -/
import Derived.Test.YthdkclkiegkabaaAdmD
import Derived.WalkLawsBesides
namespace Go.Adm

inductive VRL (ρ : LMap) : List AV → List Value → Prop where
  | nil : VRL ρ [] []
  | cons {a : AV} {v : Value} {l : List AV} {r : List Value} : VR ρ a v → VRL ρ l r → VRL ρ (a :: l) (v :: r)

theorem VRL.mono {ρ ρ' : LMap} (h : Sub ρ ρ') {l : List AV} {r : List Value} (v : VRL ρ l r) : VRL ρ' l r := by
  induction v with
  | nil => exact .nil
  | cons a _ ih => exact .cons (a.mono h) ih

theorem VRL.length {ρ : LMap} {l : List AV} {r : List Value} (v : VRL ρ l r) : l.length = r.length := by
  induction v with
  | nil => rfl
  | cons _ _ ih => simp [ih]

theorem VRL.get {ρ : LMap} {l : List AV} {r : List Value} (v : VRL ρ l r) : ∀ (i : Nat) (x : AV) (y : Value), l[i]? = some x → r[i]? = some y → VR ρ x y := by
  induction v with
  | nil => intro i x y h; simp at h
  | cons a _ ih =>
    intro i x y h k
    cases i with
    | zero => simp at h k; subst h; subst k; exact a
    | succ i => exact ih i x y (by simpa using h) (by simpa using k)

theorem VRL.of {ρ : LMap} : ∀ (l : List AV) (r : List Value), l.length = r.length → (∀ (i : Nat) (x : AV) (y : Value), l[i]? = some x → r[i]? = some y → VR ρ x y) → VRL ρ l r := by
  intro l
  induction l with
  | nil => intro r h _; cases r with
    | nil => exact .nil
    | cons _ _ => simp at h
  | cons a l ih => intro r h k; cases r with
    | nil => simp at h
    | cons b r => exact .cons (k 0 a b rfl rfl) (ih r (by simpa using h) fun i x y hx hy => k (i + 1) x y (by simpa using hx) (by simpa using hy))

theorem VRL.take {ρ : LMap} {l : List AV} {r : List Value} (v : VRL ρ l r) : ∀ n, VRL ρ (l.take n) (r.take n) := by
  induction v with
  | nil => intro n; simp; exact .nil
  | cons a _ ih => intro n; cases n with
    | zero => simp; exact .nil
    | succ n => exact .cons a (ih n)

theorem VRL.drop {ρ : LMap} {l : List AV} {r : List Value} (v : VRL ρ l r) : ∀ n, VRL ρ (l.drop n) (r.drop n) := by
  induction v with
  | nil => intro n; simp; exact .nil
  | cons a v ih => intro n; cases n with
    | zero => exact .cons a v
    | succ n => exact ih n

theorem VRL.append {ρ : LMap} {l l2 : List AV} {r r2 : List Value} (v : VRL ρ l r) (v2 : VRL ρ l2 r2) : VRL ρ (l ++ l2) (r ++ r2) := by
  induction v with
  | nil => exact v2
  | cons a _ ih => exact .cons a ih

theorem VR.agg_flat {ρ : LMap} {l : List AV} {x : Value} (h : VR ρ (.agg l) x) : l.all AV.flat = true := by
  cases h with
  | agg _ hf _ => exact hf
theorem VR.agg_inv {ρ : LMap} {l : List AV} {x : Value} (h : VR ρ (.agg l) x) : ∃ cs : Array Value, x = .agg cs ∧ VRL ρ l cs.toList := by
  cases h with
  | agg hs hf ha => rename_i cs; exact ⟨cs, rfl, .of _ _ (by simpa using hs) fun i x y h k => ha i x y h (by simpa using k)⟩
theorem VR.tup_inv {ρ : LMap} {l : List AV} {x : Value} (h : VR ρ (.tup l) x) : ∃ cs : Array Value, x = .tuple cs ∧ VRL ρ l cs.toList := by
  cases h with
  | tup hs ha => rename_i cs; exact ⟨cs, rfl, .of _ _ (by simpa using hs) fun i x y h k => ha i x y h (by simpa using k)⟩
theorem VR.mk_agg {ρ : LMap} {l : List AV} {cs : List Value} (h : VRL ρ l cs) (hf : l.all AV.flat = true) : VR ρ (.agg l) (.agg cs.toArray) :=
  .agg (by simpa using h.length) hf fun i x y a b => h.get i x y a (by simpa using b)
theorem VR.mk_agg' {ρ : LMap} {l : List AV} {cs : Array Value} (h : VRL ρ l cs.toList) (hf : l.all AV.flat = true) : VR ρ (.agg l) (.agg cs) := by
  have := VR.mk_agg h hf
  simpa using this
theorem VR.mk_tup {ρ : LMap} {l : List AV} {cs : List Value} (h : VRL ρ l cs) : VR ρ (.tup l) (.tuple cs.toArray) :=
  .tup (by simpa using h.length) fun i x y a b => h.get i x y a (by simpa using b)
theorem VR.mk_tup' {ρ : LMap} {l : List AV} {cs : Array Value} (h : VRL ρ l cs.toList) : VR ρ (.tup l) (.tuple cs) := by
  have := VR.mk_tup h
  simpa using this

theorem VRL.two {ρ : LMap} {l : List AV} {x y : Value} (h : VRL ρ l [x, y]) : ∃ a b, l = [a, b] ∧ VR ρ a x ∧ VR ρ b y := by
  cases h with
  | cons a h => cases h with
    | cons b h => cases h; exact ⟨_, _, rfl, a, b⟩
theorem VRL.one {ρ : LMap} {l : List AV} {x : Value} (h : VRL ρ l [x]) : ∃ a, l = [a] ∧ VR ρ a x := by
  cases h with
  | cons a h => cases h; exact ⟨_, rfl, a⟩
theorem VRL.three {ρ : LMap} {l : List AV} {x y z : Value} (h : VRL ρ l [x, y, z]) : ∃ a b c, l = [a, b, c] ∧ VR ρ a x ∧ VR ρ b y ∧ VR ρ c z := by
  cases h with
  | cons a h => cases h with
    | cons b h => cases h with
      | cons c h => cases h; exact ⟨_, _, _, rfl, a, b, c⟩

/-- The cells of a value. -/
theorem VR.cells {ρ : LMap} {a : AV} {x : Value} (h : VR ρ a x) : VRL ρ (cellsV a) x.cells.toList := by
  have h0 := h
  cases h
  case agg a _ b => exact (VR.agg_inv h0).elim fun cs h => by obtain ⟨e, h⟩ := h; cases e; exact h
  all_goals exact .cons h0 .nil

theorem VR.cells_flat {ρ : LMap} {a : AV} {x : Value} (h : VR ρ a x) (hs : a.solid = true) : (cellsV a).all AV.flat = true := by
  cases a <;> first | rfl | exact h.agg_flat | simp [AV.solid] at hs

theorem all_take {l : List AV} (h : l.all AV.flat = true) (n : Nat) : (l.take n).all AV.flat = true := by
  rw [List.all_eq_true] at *
  exact fun x hx => h x (List.mem_of_mem_take hx)
theorem all_drop {l : List AV} (h : l.all AV.flat = true) (n : Nat) : (l.drop n).all AV.flat = true := by
  rw [List.all_eq_true] at *
  exact fun x hx => h x (List.mem_of_mem_drop hx)
theorem all_splice {l r : List AV} (h : l.all AV.flat = true) (h' : r.all AV.flat = true) (n : Nat) : (splice l n r).all AV.flat = true := by
  simp only [splice, List.all_append, all_take h, h', all_drop h, Bool.and_self]

theorem ofCell_flat {v : Value} {a : AV} (h : ofCell v = some a) : a.flat = true := by
  unfold ofCell at h
  split at h <;> simp at h <;> subst h <;> rfl
theorem ofCells_flat : ∀ {l : List Value} {r : List AV}, ofCells l = some r → r.all AV.flat = true := by
  intro l
  induction l with
  | nil => intro r h; simp [ofCells] at h; subst h; rfl
  | cons v l ih =>
    intro r h
    simp only [ofCells, Option.bind_eq_some_iff, Option.map_eq_some_iff] at h
    obtain ⟨a, ha, b, hb, rfl⟩ := h
    simp only [List.all_cons, ofCell_flat ha, ih hb, Bool.and_self]

theorem ofCell_VR {ρ : LMap} {v : Value} {a : AV} (h : ofCell v = some a) : VR ρ a v := by
  unfold ofCell at h
  split at h <;> simp at h <;> subst h <;> constructor
theorem ofCells_VRL {ρ : LMap} : ∀ {l : List Value} {r : List AV}, ofCells l = some r → VRL ρ r l := by
  intro l
  induction l with
  | nil => intro r h; simp [ofCells] at h; subst h; exact .nil
  | cons v l ih =>
    intro r h
    simp only [ofCells, Option.bind_eq_some_iff, Option.map_eq_some_iff] at h
    obtain ⟨a, ha, b, hb, rfl⟩ := h
    exact .cons (ofCell_VR ha) (ih hb)
theorem ofConst_VR {ρ : LMap} {v : Value} {a : AV} (h : ofConst v = some a) : VR ρ a v := by
  unfold ofConst at h
  split at h
  · simp only [Option.map_eq_some_iff] at h
    obtain ⟨l, hl, rfl⟩ := h
    exact .mk_agg' (ofCells_VRL hl) (ofCells_flat hl)
  · exact ofCell_VR h

theorem aggT_part {P : Program} {ρ : LMap} {t : TypeId} {n : Nat} {g : Bool} (hs : sizeD P t = some n) (hg : aggD P t = some g) {l : List AV} {cs : Array Value} (h : VRL ρ l cs.toList) (hf : l.all AV.flat = true)
    {off : Nat} {v : AV} (hv : aPart off n g l = some v) : ∃ v', VR ρ v v' ∧ ∀ w, (part t cs off).run P w = .ok v' w := by
  have hl := h.length
  simp only [Array.length_toList] at hl
  cases g with
  | true =>
    simp only [aPart] at hv
    split at hv
    · rename_i ho
      cases hv
      refine ⟨.agg (cs.extract off (off + n)), ?_, fun w => ?_⟩
      · refine .mk_agg' ?_ (all_take (all_drop hf _) _)
        have := (h.drop off).take n
        simpa [List.take_drop] using this
      · simp [part, run_isAgg hg, run_sizeOf hs]
    · cases hv
  | false =>
    simp only [aPart] at hv
    have hlt := lt_of_get hv
    refine ⟨cs[off]'(by omega), ?_, fun w => ?_⟩
    · exact h.get off v _ hv (by simp [show off < cs.size by omega])
    · simp [part, run_isAgg hg, show off < cs.size by omega]

theorem aEqCells_V {ρ : LMap} : ∀ {ks : List CK} {as bs : List AV} {r : Bool} {xs ys : List Value}, aEqCells ks as bs = some r → VRL ρ as xs → VRL ρ bs ys → eqV ks xs ys = some r := by
  intro ks
  induction ks with
  | nil =>
    intro as bs r xs ys h h1 h2
    cases h1 <;> cases h2 <;> simp_all [aEqCells, eqV]
  | cons c ks ih =>
    intro as bs r xs ys h h1 h2
    cases h1 with
    | nil => simp [aEqCells] at h
    | cons a1 h1 =>
      cases h2 with
      | nil => simp [aEqCells] at h
      | cons a2 h2 =>
        simp only [aEqCells, Option.bind_eq_some_iff, Option.map_eq_some_iff] at h
        obtain ⟨u, hu, v, hv, rfl⟩ := h
        rename_i x _ _ _ y _ _
        have : CK.okV c x y = some u := by
          unfold aEqCk at hu
          split at hu <;> first | (cases a1; cases a2; exact hu) | simp at hu
        simp only [eqV, this, Option.bind_some, ih hv h1 h2, Option.map_some]

theorem run_eq_of_equalIn {P : Program} {t : TypeId} {x y : Value} {r : Bool} {w : World} {xo yo : Operand} (h : ∀ n, (Op.equalIn (n + 1) t x y).run P w = .ok r w)
    (h1 : binOp .eql t x y = (do pure (.bool (← Op.equal t x y)))) (h2 : binOp .neq t x y = (do pure (.bool (!(← Op.equal t x y)))))
    (g1 : (eqGuard .eql t xo yo x y).run P w = .ok () w) (g2 : (eqGuard .neq t xo yo x y).run P w = .ok () w) :
    ((eqGuard .eql t xo yo x y).run P w = .ok () w ∧ (binOp .eql t x y).run P w = .ok (.bool r) w) ∧
    ((eqGuard .neq t xo yo x y).run P w = .ok () w ∧ (binOp .neq t x y).run P w = .ok (.bool !r) w) := by
  have e : (Op.equal t x y).run P w = .ok r w := h 9999
  refine ⟨⟨g1, ?_⟩, g2, ?_⟩
  · rw [h1]; simp [e]
  · rw [h2]; simp [e]

theorem run_eq_flat {P : Program} {ρ : LMap} {t : TypeId} {e : EK} (ht : eqOk P t = some e) {a b : AV} {x y : Value} {r : Bool} (h : aEq e a b = some r) (ha : VR ρ a x) (hb : VR ρ b y) (xo yo : Operand) (w : World) :
    ((eqGuard .eql t xo yo x y).run P w = .ok () w ∧ (binOp .eql t x y).run P w = .ok (.bool r) w) ∧
    ((eqGuard .neq t xo yo x y).run P w = .ok () w ∧ (binOp .neq t x y).run P w = .ok (.bool !r) w) := by
  unfold eqOk at ht
  cases hu : P.underlying t with
  | none => simp [hu] at ht
  | some d =>
    unfold aEq at h
    split at h
    case h_1 =>
      cases ha; cases hb; cases h
      cases d <;> simp [hu] at ht
      exact run_eq_of_equalIn (fun n => run_equalIn_bool w n t _ _ hu) rfl rfl (by simp [eqGuard]) (by simp [eqGuard])
    case h_2 =>
      split at h <;> cases h
      rename_i hk; subst hk
      cases ha; cases hb
      simp [eqGuard, binOp, Op.intCmp, bne]
    case h_3 =>
      cases ha; cases hb; cases h
      simp [eqGuard, binOp, Op.stringOp, beq_toListBytes]
    case h_13 => cases h
    all_goals
      cases h
      cases ha <;> cases hb <;> cases d <;> simp [hu] at ht <;>
        exact run_eq_of_equalIn (fun n => by simp [Op.equalIn, run_underlying hu]) rfl rfl (by simp [eqGuard]) (by simp [eqGuard])

/-- What a run of an operation that touches no memory comes to. -/
def PureTo (P : Program) (ρ : LMap) (s : Sem Next) (v : AV) : Prop := ∃ v', VR ρ v v' ∧ ∀ w, s.run P w = .ok (.value v') w

theorem PureTo.of_val {P : Program} {ρ : LMap} {s : Sem Value} {v : AV} {v' : Value} (h : VR ρ v v') (hs : ∀ w, s.run P w = .ok v' w) :
    PureTo P ρ (do pure (.value (← s))) v := ⟨v', h, fun w => by simp [hs]⟩

theorem sliceBound_run {P : Program} {ρ : LMap} {x : AV} {x' : Value} {y n : Nat} (h : bnd x y = some n) (hx : VR ρ x x') {y' : Nat} (hy : y ≤ y') (code : BoundsCode) (w : World) :
    (Instr.sliceBound x' y' code).run P w = .ok n w := by
  unfold bnd at h
  split at h
  · split at h
    · rename_i hc
      cases h; cases hx
      simp [Instr.sliceBound, asIntOf, hc.1, show _ ≤ (y' : Int) from Int.le_trans hc.2 (by omega)]
    · cases h
  · cases h
theorem bnd_le {x : AV} {y n : Nat} (h : bnd x y = some n) : n ≤ y := by
  unfold bnd at h
  split at h
  · split at h
    · cases h; omega
    · cases h
  · cases h

theorem sliceBounds_run {P : Program} {ρ : LMap} {lo hi mx : Option Value} {len cap : Nat} {vs : List AV} {l h m : Nat} (hlc : len ≤ cap) {cap' : Nat} (hcap : cap ≤ cap') (hb : bounds lo.isSome hi.isSome mx.isSome len cap vs = some (l, h, m))
    (hv : VRL ρ vs (lo.toList ++ (hi.toList ++ mx.toList))) (w : World) (is : Bool) :
    ((Instr.sliceBounds is len cap' lo hi mx).run P w = .ok (l, h, if mx.isSome then m else cap') w) ∧ l ≤ h ∧ h ≤ m ∧ (mx.isSome = false → m = cap) ∧ m ≤ cap := by
  cases lo with
  | none =>
    cases hi with
    | none =>
      cases mx with
      | none =>
        cases hv
        simp [bounds] at hb
        obtain ⟨rfl, rfl, rfl⟩ := hb
        simp [Instr.sliceBounds, hlc]
      | some c =>
        obtain ⟨a, rfl, ha⟩ := VRL.one hv
        simp [bounds] at hb
    | some b =>
      cases mx with
      | none =>
        obtain ⟨a, rfl, ha⟩ := VRL.one hv
        simp [bounds, Option.map_eq_some_iff] at hb
        obtain ⟨q, h1, rfl, rfl, rfl⟩ := hb
        simp [Instr.sliceBounds, sliceBound_run h1 ha hcap, bnd_le h1]
      | some c =>
        obtain ⟨a, a2, rfl, ha, ha2⟩ := VRL.two hv
        simp [bounds, Option.map_eq_some_iff, Option.bind_eq_some_iff] at hb
        obtain ⟨q, h1, q2, h2, rfl, rfl, rfl⟩ := hb
        simp [Instr.sliceBounds, sliceBound_run h1 ha2 hcap, sliceBound_run h2 ha (Nat.le_refl _), bnd_le h1, bnd_le h2]
  | some b0 =>
    cases hi with
    | none =>
      cases mx with
      | none =>
        obtain ⟨a, rfl, ha⟩ := VRL.one hv
        simp [bounds, Option.map_eq_some_iff] at hb
        obtain ⟨q, h1, rfl, rfl, rfl⟩ := hb
        simp [Instr.sliceBounds, sliceBound_run h1 ha (Nat.le_refl _), bnd_le h1, hlc]
      | some c =>
        obtain ⟨a, a2, rfl, ha, ha2⟩ := VRL.two hv
        simp [bounds] at hb
    | some b =>
      cases mx with
      | none =>
        obtain ⟨a, a2, rfl, ha, ha2⟩ := VRL.two hv
        simp [bounds, Option.map_eq_some_iff, Option.bind_eq_some_iff] at hb
        obtain ⟨x, h1, y, h2, rfl, rfl, rfl⟩ := hb
        simp [Instr.sliceBounds, sliceBound_run h1 ha2 hcap, sliceBound_run h2 ha (Nat.le_refl _), bnd_le h1, bnd_le h2]
      | some c =>
        obtain ⟨a, a2, a3, rfl, ha, ha2, ha3⟩ := VRL.three hv
        simp [bounds, Option.map_eq_some_iff, Option.bind_eq_some_iff] at hb
        obtain ⟨x, h1, y, h2, z, h3, rfl, rfl, rfl⟩ := hb
        simp [Instr.sliceBounds, sliceBound_run h1 ha3 hcap, sliceBound_run h2 ha2 (Nat.le_refl _), sliceBound_run h3 ha (Nat.le_refl _), bnd_le h1, bnd_le h2, bnd_le h3]

theorem VR.sl_inv {ρ : LMap} {b o len cap s : Nat} {x : Value} (h : VR ρ (.sl b o len cap s) x) : ∃ L a cap', x = .slice (some a) len cap' ∧ ρ b = some L ∧ len ≤ cap ∧ cap ≤ cap' ∧ a.spot = none ∧
    (s = 0 → cap' = cap) ∧ (0 < cap' → a = L.addr o) ∧ (0 < cap' → 0 < s → L.base + o + cap' * s ≤ L.lim) := by
  cases h with
  | sl h1 h2 h3 h4 => exact ⟨_, _, _, rfl, h1, h2, Nat.le_refl _, h3, fun _ => rfl, h4, fun _ h => absurd h (by omega)⟩
  | so h1 h2 h3 h4 h5 h6 => exact ⟨_, _, _, rfl, h1, h4, h3, h5, fun h => absurd h (by omega), fun h => (h6 h).1, fun h _ => (h6 h).2⟩

theorem VR.mk_sl {ρ : LMap} {b o len cap s cap' : Nat} {L : Loc} {a : Addr} (h1 : ρ b = some L) (h2 : len ≤ cap) (h3 : cap ≤ cap') (h4 : a.spot = none) (h5 : s = 0 → cap' = cap) (h6 : 0 < cap' → a = L.addr o)
    (h7 : 0 < cap' → 0 < s → L.base + o + cap' * s ≤ L.lim) : VR ρ (.sl b o len cap s) (.slice (some a) len cap') := by
  by_cases e : s = 0
  · subst e
    obtain rfl := h5 rfl
    exact .sl h1 h2 h4 h6
  · exact .so h1 (by omega) h3 h2 h4 fun h => ⟨h6 h, h7 h (by omega)⟩

theorem addr_add (L : Loc) (o n : Nat) : (L.addr o).add n = L.addr (o + n) := by
  unfold Addr.add Loc.addr
  split
  · subst_vars; simp
  · simp [Nat.add_assoc]

theorem foldl_put (off : Nat) : ∀ (new : List Value) (acc : Array Value) (j : Nat), off + j + new.length ≤ acc.size →
    ((new.zipIdx j).foldl (fun cs (y : Value × Nat) => cs.setIfInBounds (off + y.2) y.1) acc).toList = acc.toList.take (off + j) ++ new ++ acc.toList.drop (off + j + new.length) := by
  intro new
  induction new with
  | nil => intro acc j _; simp
  | cons y new ihn =>
    intro acc j hj
    simp only [List.length_cons] at hj
    rw [List.zipIdx_cons, List.foldl_cons, ihn _ (j + 1) (by simp; omega)]
    have t1 : (acc.toList.set (off + j) y).take (off + (j + 1)) = acc.toList.take (off + j) ++ [y] := by
      rw [show off + (j + 1) = off + j + 1 by omega, List.take_succ_eq_append_getElem (by simp; omega)]
      have : (acc.toList.set (off + j) y).take (off + j) = acc.toList.take (off + j) := by
        apply List.ext_getElem?
        intro k
        by_cases hk : k < off + j
        · rw [List.getElem?_take_of_lt hk, List.getElem?_take_of_lt hk, List.getElem?_set_ne (by omega)]
        · rw [List.getElem?_eq_none (by simp; omega), List.getElem?_eq_none (by simp; omega)]
      rw [this]
      simp
    have t2 : (acc.toList.set (off + j) y).drop (off + (j + 1) + new.length) = acc.toList.drop (off + j + (new.length + 1)) := by
      rw [List.drop_set_of_lt (by omega)]
      congr 1; omega
    simp only [Array.toList_setIfInBounds, List.length_cons]
    rw [t1, t2]
    simp

theorem aFill_run {ρ : LMap} {place : Nat → Option (Nat × Nat)} : ∀ (ps : List (Nat × Nat)) (cells : List AV) (vs r : List AV) (cells' : Array Value) (idx : List Nat) (xs : List Value),
    aFill cells ps vs = some r → VRL ρ cells cells'.toList → cells.all AV.flat = true → VRL ρ vs xs → idx.map place = ps.map some → ∃ r', Instr.fill place cells' (idx.zip xs) = some r' ∧ VRL ρ r r'.toList ∧ r.all AV.flat = true := by
  intro ps
  induction ps with
  | nil =>
    intro cells vs r cells' idx xs h hc hcf hv hi
    cases hv with
    | nil => simp [aFill] at h; subst h; exact ⟨cells', by simp [Instr.fill], hc, hcf⟩
    | cons a b => simp [aFill] at h
  | cons p ps ih =>
    intro cells vs r cells' idx xs h hc hcf hv hi
    obtain ⟨off, sz⟩ := p
    cases hv with
    | nil => simp [aFill] at h
    | cons a b =>
      rename_i v x vs xs
      cases idx with
      | nil => simp at hi
      | cons i idx =>
        simp only [List.map_cons, List.cons.injEq] at hi
        simp only [aFill] at h
        split at h
        · rename_i hh
          have hcv := a.cells
          have hl := hcv.length
          have hcl := hc.length
          simp only [Array.length_toList] at hl hcl
          have key := foldl_put off
          have e1 : place i = some (off, sz) := hi.1
          simp only [List.zip_cons_cons, Instr.fill, e1]
          rw [if_neg (by simp; omega)]
          refine ih _ _ _ _ _ _ h ?_ (all_splice hcf (a.cells_flat hh.2.2) _) b hi.2
          rw [← Array.foldl_toList]
          have := key x.cells.toList cells' 0 (by simp; omega)
          simp only [Nat.add_zero] at this
          rw [Array.toList_zipIdx, this]
          unfold splice
          rw [show (cellsV v).length = x.cells.toList.length by simpa using hl]
          exact ((hc.take off).append hcv).append (hc.drop _)
        · cases h
end Go.Adm
