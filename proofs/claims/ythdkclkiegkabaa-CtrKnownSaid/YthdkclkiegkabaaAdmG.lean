/- Operations that read, make or write memory. -/
import Derived.Test.YthdkclkiegkabaaAdmF
import Derived.Laws.MakeOwn
import Derived.Laws.Append
namespace Go.Adm

theorem Addr_add_zero (a : Addr) : a.add 0 = a := by simp [Addr.add]

def opCls : Op → Cls
  | .load .. => .read
  | .alloc .. => .make
  | .box .. => .make
  | .makeSlice .. => .make
  | .buildSlice .. => .make
  | .store .. => .write
  | .call c => match c.callee with
    | .builtin .append => .write
    | .builtin .copy => .write
    | .value _ => .call
    | _ => .pure
  | _ => .pure

theorem ck_cls {P : Program} {op : Op} {k : AK} {xs : List Operand} (h : ckOp P op = some (k, xs)) : k.cls = opCls op := by
  cases op
  case call c =>
    obtain ⟨callee, args, at_⟩ := c
    cases callee with
    | invoke r m => simp [ckOp] at h
    | value f => cases f <;> simp only [ckOp, Option.some.injEq, Prod.mk.injEq] at h <;> obtain ⟨rfl, _⟩ := h <;> rfl
    | builtin b =>
      cases b <;> simp only [ckOp, reduceCtorEq] at h
      case append =>
        split at h
        · split at h
          · simp only [Option.bind_eq_some_iff] at h
            obtain ⟨z, _, b, _, h⟩ := h
            split at h <;> cases h
            rfl
          · cases h
        · cases h
      case copy =>
        split at h
        · split at h
          · simp only [Option.bind_eq_some_iff] at h
            obtain ⟨z, _, h⟩ := h
            split at h <;> cases h
            rfl
          · cases h
        · cases h
      all_goals (split at h <;> cases h <;> rfl)
  case load t a =>
    simp only [ckOp, Option.bind_eq_some_iff] at h
    obtain ⟨s, _, gg, _, h⟩ := h
    split at h <;> cases h
    rfl
  case alloc t =>
    simp only [ckOp, Option.map_eq_some_iff] at h
    obtain ⟨s, _, h⟩ := h
    cases h
    rfl
  case box t a => cases h; rfl
  case makeSlice t a b =>
    simp only [ckOp] at h
    split at h
    · simp only [Option.bind_eq_some_iff] at h
      obtain ⟨s, _, gg, _, h⟩ := h
      split at h <;> cases h
      rfl
    · cases h
  case buildSlice t a b =>
    simp only [ckOp] at h
    split at h
    · simp only [Option.bind_eq_some_iff] at h
      obtain ⟨s, _, h⟩ := h
      split at h <;> cases h
      rfl
    · cases h
  case store t a v' =>
    simp only [ckOp, Option.map_eq_some_iff] at h
    obtain ⟨s, _, h⟩ := h
    cases h
    rfl
  case binOp op t x y yt =>
    cases op <;> simp only [ckOp, ckEq, Option.some.injEq, Prod.mk.injEq] at h
    case eql => split at h <;> (try split at h) <;> simp only [Option.map_eq_some_iff, Prod.mk.injEq, reduceCtorEq] at h <;> obtain ⟨_, _, rfl, _⟩ := h <;> rfl
    case neq => split at h <;> (try split at h) <;> simp only [Option.map_eq_some_iff, Prod.mk.injEq, reduceCtorEq] at h <;> obtain ⟨_, _, rfl, _⟩ := h <;> rfl
    all_goals (obtain ⟨rfl, _⟩ := h; rfl)
  case unOp op t x => cases op <;> cases h <;> rfl
  case convert src dst x =>
    simp only [ckOp] at h
    split at h <;> cases h
    rfl
  case sliceToArrayPointer arr x =>
    simp only [ckOp] at h
    split at h <;> cases h
    rfl
  case makeFunc fn a b => cases fn <;> cases h; rfl
  case slice t x lo hi mx =>
    simp only [ckOp] at h
    split at h <;> simp only [Option.bind_eq_some_iff, reduceCtorEq] at h <;> obtain ⟨s, _, h⟩ := h <;> split at h <;> cases h <;> rfl
  case fieldAddr t x f =>
    simp only [ckOp] at h
    split at h
    · simp only [Option.bind_eq_some_iff] at h
      obtain ⟨fl, _, h⟩ := h
      split at h <;> cases h
      rfl
    · cases h
  case field t x f =>
    simp only [ckOp] at h
    split at h
    · simp only [Option.bind_eq_some_iff, Option.map_eq_some_iff] at h
      obtain ⟨fl, _, s, _, gg, _, h⟩ := h
      cases h
      rfl
    · cases h
  case indexAddr t x f =>
    simp only [ckOp] at h
    split at h <;> simp only [Option.map_eq_some_iff, reduceCtorEq] at h <;> obtain ⟨s, _, h⟩ := h <;> cases h <;> rfl
  case index t x f =>
    simp only [ckOp] at h
    split at h
    · simp only [Option.bind_eq_some_iff, Option.map_eq_some_iff] at h
      obtain ⟨s, _, gg, _, h⟩ := h
      cases h
      rfl
    · cases h; rfl
    · cases h
  case build t parts =>
    simp only [ckOp, Option.bind_eq_some_iff] at h
    obtain ⟨z, _, h⟩ := h
    split at h
    · simp only [Option.bind_eq_some_iff] at h
      obtain ⟨z, _, h⟩ := h
      split at h <;> cases h
      rfl
    · simp only [Option.map_eq_some_iff] at h
      obtain ⟨z, _, h⟩ := h
      cases h
      rfl
    · cases h
  case makeInterface t x =>
    simp only [ckOp] at h
    split at h <;> cases h
    rfl
  all_goals (cases h; try rfl)

section
variable {P : Program} {ρ : LMap} {ev : Operand → Value} {m : Mem} {w : World}

theorem rowOf_some {b : Nat} {cells : List AV} (h : rowOf m b = some cells) : ∃ r, m[b]? = some (.row cells r) := by
  unfold rowOf at h
  split at h
  · rename_i c r e; cases h; exact ⟨r, e⟩
  · cases h
theorem own_some {b : Nat} {cells : List AV} (h : own m b = some cells) : m[b]? = some (.row cells false) := by
  unfold own at h
  split at h
  · rename_i c e; cases h; exact e
  · cases h

theorem Sim.flat (hs : Sim m ρ w) {b : Nat} {L : Loc} {cells : List AV} (hb : ρ b = some L) (hr : rowOf m b = some cells) : cells.all AV.flat = true := by
  obtain ⟨r, hr⟩ := rowOf_some hr
  exact (hs.row b L cells r hb hr).flat

/-- Cells that lie one behind the other, as the world holds them. -/
theorem Sim.cells (hs : Sim m ρ w) {b o n : Nat} {L : Loc} {cells : List AV} (hb : ρ b = some L) (hr : rowOf m b = some cells) (hn : o + n ≤ cells.length) :
    ∃ cs : List Value, cs.length = n ∧ VRL ρ ((cells.drop o).take n) cs ∧ ∀ (j : Nat) (v : Value), cs[j]? = some v → w.cell? ((L.addr o).add j) = some v := by
  obtain ⟨r, hr⟩ := rowOf_some hr
  obtain ⟨C, e, fz, h1, h2, h3, h4, h5⟩ := (hs.row b L cells r hb hr).ex
  have hlen : ((C.toList.drop (L.base + o)).take n).length = n := by simp; omega
  refine ⟨(C.toList.drop (L.base + o)).take n, hlen, ?_, ?_⟩
  · refine .of _ _ (by rw [hlen]; simp; omega) fun i x y hx hy => ?_
    have hi : i < n := by
      have := lt_of_get hy
      omega
    rw [List.getElem?_take_of_lt hi, List.getElem?_drop] at hx hy
    obtain ⟨v', g1, g2⟩ := h4 _ _ hx
    rw [Array.getElem?_toList, show L.base + o + i = L.base + (o + i) by omega, g1] at hy
    cases hy
    exact g2
  · intro j v hv
    have hi : j < n := by
      have := lt_of_get hv
      omega
    rw [List.getElem?_take_of_lt hi, List.getElem?_drop, Array.getElem?_toList] at hv
    rw [addr_add]
    simp only [World.cell?, Loc.addr, h1, Option.isSome_none, Bool.false_eq_true, if_false]
    rw [show L.base + (o + j) = L.base + o + j by omega]
    exact hv

theorem read_sound {o : Oper} {k : AK} {xs : List Operand} {vs : List AV} {v : AV} (hc : ckOp P o.op = some (k, xs)) (hk : k.cls = .read) (ha : aR k vs m = some v)
    (hv : VRL ρ vs (xs.map ev)) (hs : Sim m ρ w) : ∃ v', VR ρ v v' ∧ (execOp ev o).run P w = .ok (.value v') w := by
  obtain ⟨dst, op, ty, pos, af, g⟩ := o
  cases k <;> simp only [AK.cls, reduceCtorEq] at hk
  rename_i agg n
  cases op
  case load t a =>
    simp only [ckOp, Option.bind_eq_some_iff] at hc
    obtain ⟨s, hsz, gg, hg, hc⟩ := hc
    split at hc
    · rename_i h1
      simp only [Option.some.injEq, Prod.mk.injEq, AK.load.injEq] at hc
      obtain ⟨⟨rfl, rfl⟩, rfl⟩ := hc
      obtain ⟨x, rfl, hx⟩ := hv.map1
      simp only [aR, rLoad] at ha
      split at ha
      · rename_i b o he
        simp only [List.cons.injEq, and_true] at he
        subst he
        simp only [Option.bind_eq_some_iff] at ha
        obtain ⟨cells, hr, ha⟩ := ha
        cases hxe : ev a <;> rw [hxe] at hx <;> cases hx
        rename_i L hρ
        cases gg with
        | true =>
          simp only [aPart] at ha
          split at ha
          · rename_i hle
            cases ha
            obtain ⟨cs, c1, c2, c3⟩ := hs.cells hρ hr hle
            refine ⟨.agg cs.toArray, .mk_agg c2 (all_take (all_drop (hs.flat hρ hr) _) _), ?_⟩
            have hl := run_loadCells_list (P := P) w (L.addr o) cs c3
            rw [c1] at hl
            simp [execOp, hxe, Instr.loadAt, Instr.sureAddr, loadVar, run_isAgg hg, run_sizeOf hsz, hl]
          · cases ha
        | false =>
          simp only [aPart] at ha
          obtain ⟨r, hr'⟩ := rowOf_some hr
          obtain ⟨v', h1, h2⟩ := hs.cell hρ hr' ha
          exact ⟨v', h2, by simp [execOp, hxe, Instr.loadAt, Instr.sureAddr, loadVar, run_isAgg hg, h1]⟩
      · cases ha
    · cases hc
  all_goals (have := ck_cls hc; simp [AK.cls, opCls] at this)
  rename_i c
  obtain ⟨callee, args, at_⟩ := c
  cases callee with
  | builtin b => cases b <;> simp at this
  | value f => simp at this
  | invoke r n => simp at this

theorem alloc_get (w : World) (o : Obj) : (w.alloc o).heap[w.heap.size]? = some o := by
  show (w.heap.push o)[w.heap.size]? = _
  simp

theorem rowAt_new {cells : List AV} {C : Array Value} (h : VRL ρ cells C.toList) (hf : cells.all AV.flat = true) (e : TypeId) : RowAt ρ (w.alloc (.cells C e)) ⟨w.heap.size, 0, C.size⟩ cells false := by
  have hl := h.length
  simp only [Array.length_toList] at hl
  refine ⟨⟨C, e, (0, 0), alloc_get w _, rfl, by simp [hl], fun i v hv => ?_, fun _ i _ => by omega⟩, hf⟩
  have hlt := lt_of_get hv
  have hg : C[0 + i]? = some (C[i]'(by omega)) := by simp [show i < C.size by omega]
  exact ⟨_, hg, h.get i v _ hv (by simp [show i < C.size by omega])⟩

/-- What a run of an operation that makes a block comes to. -/
structure MakeTo (P : Program) (ρ : LMap) (w : World) (s : Sem Next) (k : Blk) (mk : Nat → AV) : Prop where
  ex : ∃ cells o lim v', k = .row cells false ∧ s.run P w = .ok (.value v') (w.alloc o) ∧ RowAt ρ (w.alloc o) ⟨w.heap.size, 0, lim⟩ cells false ∧
    ∀ (ρ' : LMap) (id : Nat), ρ' id = some ⟨w.heap.size, 0, lim⟩ → VR ρ' (mk id) v'

theorem rep_get (z : List AV) : ∀ (n i : Nat), i < n * z.length → (rep n z)[i]? = z[i % z.length]? := by
  intro n
  induction n with
  | zero => intro i h; simp at h
  | succ n ih =>
    intro i h
    have e : rep (n + 1) z = z ++ rep n z := by simp [rep, List.replicate_succ]
    rw [e]
    by_cases hi : i < z.length
    · rw [List.getElem?_append_left hi, Nat.mod_eq_of_lt hi]
    · rw [List.getElem?_append_right (by omega), ih _ (by rw [Nat.add_mul, Nat.one_mul] at h; omega)]
      congr 1
      rw [Nat.mod_eq_sub_mod (by omega : z.length ≤ i)]

theorem rep_length (z : List AV) (n : Nat) : (rep n z).length = n * z.length := by
  simp [rep, List.length_flatten]

theorem rep_flat {z : List AV} (h : z.all AV.flat = true) (n : Nat) : (rep n z).all AV.flat = true := by
  rw [List.all_eq_true] at *
  intro x hx
  simp only [rep, List.mem_flatten, List.mem_replicate] at hx
  obtain ⟨l, ⟨_, rfl⟩, hx⟩ := hx
  exact h x hx

theorem rep_VRL {z : List AV} {Z : Array Value} (h : VRL ρ z Z.toList) (h0 : 0 < z.length) (n : Nat) :
    VRL ρ (rep n z) ((Array.range (n * Z.size)).map (Z[· % Z.size]!)).toList := by
  have hl := h.length
  simp only [Array.length_toList] at hl
  refine .of _ _ (by simp [rep_length, hl]) fun i x y hx hy => ?_
  have hlt := lt_of_get hx
  rw [rep_length] at hlt
  rw [rep_get z n i hlt] at hx
  have hm : i % Z.size < Z.size := Nat.mod_lt _ (by omega)
  simp only [Array.toList_map, List.getElem?_map, Array.getElem?_toList, Option.map_eq_some_iff] at hy
  obtain ⟨j, hj, rfl⟩ := hy
  have hj' : j = i := by
    rw [Array.getElem?_range] at hj
    split at hj <;> cases hj
    rfl
  subst hj'
  refine h.get _ x _ hx ?_
  rw [hl, Array.getElem?_toList, Array.getElem!_eq_getD, Array.getD, dif_pos hm]
  simp [hm]

theorem make_sound {o : Oper} {k : AK} {xs : List Operand} {vs : List AV} {b : Blk} {mk : Nat → AV} (hc : ckOp P o.op = some (k, xs)) (hk : k.cls = .make) (ha : aA k vs = some (b, mk))
    (hv : VRL ρ vs (xs.map ev)) : MakeTo P ρ w (execOp ev o) b mk := by
  have hcls := ck_cls hc
  rw [hk] at hcls
  obtain ⟨dst, op, ty, pos, af, g⟩ := o
  cases op
  case alloc t =>
    simp only [ckOp, Option.map_eq_some_iff] at hc
    obtain ⟨z, hz, hc⟩ := hc
    cases hc
    cases hv
    cases ha
    obtain ⟨hzf, zv, hzv, hzr⟩ := zeroD_run (P := P) (ρ := ρ) hz
    refine ⟨_, .cells zv.cells t, zv.cells.size, .pointer (some ⟨w.heap.size, 0, none⟩), rfl, ?_, rowAt_new hzv hzf t, fun ρ' id h => .ptr h⟩
    simp [execOp, Instr.alloc, hzr, newVar, newRow]
  case box t x =>
    cases hc
    obtain ⟨a, rfl, h1⟩ := hv.map1
    simp only [aA, mkBox] at ha
    split at ha
    · rename_i hso
      cases ha
      refine ⟨_, .cells (ev x).cells t, (ev x).cells.size, .pointer (some ⟨w.heap.size, 0, none⟩), rfl, ?_, rowAt_new h1.cells (h1.cells_flat hso) t, fun ρ' id h => .ptr h⟩
      simp [execOp, Instr.box, newVar, newRow]
    · cases ha
  case makeSlice t l c =>
    simp only [ckOp] at hc
    split at hc
    · rename_i e hu
      simp only [Option.bind_eq_some_iff] at hc
      obtain ⟨z, hz, bb, hb, hc⟩ := hc
      split at hc
      · rename_i hh
        cases hc
        obtain ⟨x, y, rfl, h1, h2⟩ := hv.map2
        simp only [aA, mkMake] at ha
        split at ha
        · rename_i k1 lv k2 cv he
          simp only [List.cons.injEq, and_true] at he
          obtain ⟨rfl, rfl⟩ := he
          split at ha
          · rename_i hlc
            cases ha
            cases hx : ev l <;> rw [hx] at h1 <;> cases h1
            cases hy : ev c <;> rw [hy] at h2 <;> cases h2
            unfold zeroD at hz
            simp only [Option.bind_eq_some_iff] at hz
            obtain ⟨i, hi, zv, hzv, hz⟩ := hz
            have hzl : VRL ρ z zv.cells.toList := ofCells_VRL hz
            have hzs := hzl.length
            simp only [Array.length_toList] at hzs
            have hsz : i.size = z.length := by simpa [sizeD, hi] using hh.1
            have hby : i.bytes = bb := by simpa [bytesD, hi] using hb
            have hr := run_make (P := P) w t e i zv hu hi hzv k1 k2 lv cv hlc.1 hlc.2.1 (by rw [hby, Int.mul_comm]; omega) (by omega)
            have hrow := rep_VRL hzl hh.2 cv.toNat
            rw [hsz] at hr
            refine ⟨_, .cells (madeCells zv.cells (cv.toNat * z.length)) e, cv.toNat * z.length, .slice (some ⟨w.heap.size, 0, none⟩) lv.toNat cv.toNat, rfl, ?_, ?_, fun ρ' id h => ?_⟩
            · simp [execOp, hx, hy, hr]
            · have := rowAt_new (w := w) (e := e) hrow (rep_flat (ofCells_flat hz) _)
              rw [← hzs] at this
              have hsize : ((Array.range (cv.toNat * z.length)).map (zv.cells[· % zv.cells.size]!)).size = cv.toNat * z.length := by simp
              unfold madeCells
              rw [hzs] at this ⊢
              simpa using this
            · refine .mk_sl h (by omega) (Nat.le_refl _) rfl (fun _ => rfl) (fun _ => rfl) (fun _ h => absurd h (by omega))
          · cases ha
        · cases ha
      · cases hc
    · cases hc
  case buildSlice t n parts =>
    have hzip : ∀ l : List (Nat × Operand), l.map (fun (i, x) => (i, ev x)) = (l.map (·.1)).zip ((l.map (·.2)).map ev) := by
      intro l
      induction l with
      | nil => rfl
      | cons p l ih => simp [ih]
    simp only [ckOp] at hc
    split at hc
    · rename_i e hu
      simp only [Option.bind_eq_some_iff] at hc
      obtain ⟨z, hz, hc⟩ := hc
      split at hc
      · rename_i hh
        cases hc
        simp only [aA, Option.map_eq_some_iff] at ha
        obtain ⟨cells, hcells, ha⟩ := ha
        cases ha
        obtain ⟨hzf, zv, hzv, hzr⟩ := zeroD_run (P := P) (ρ := ρ) hz
        have hzs := hzv.length
        simp only [Array.length_toList] at hzs
        have hrow := rep_VRL hzv hh.2.1 n
        rw [← hzs] at hrow
        obtain ⟨r', g1, g2, g3⟩ := aFill_run (place := fun i => some (i * z.length, z.length)) _ _ _ _ ((Array.range (n * z.length)).map (zv.cells[· % zv.cells.size]!)) (parts.toList.map (·.1)) _ hcells
          (by rw [hzs] at hrow ⊢; exact hrow) (rep_flat hzf _) hv (by simp [Function.comp_def])
        have hsz := hh.1
        have hlim : ¬ (n * z.length > 2 ^ 24) := by have := hh.2.2; omega
        have hle := g2.length
        refine ⟨_, .cells r' e, r'.size, .slice (some ⟨w.heap.size, 0, none⟩) n n, rfl, ?_, rowAt_new g2 g3 e, fun ρ' id h => ?_⟩
        · have hexec : execOp ev ⟨dst, .buildSlice t n parts, ty, pos, af, g⟩ = (do pure (.value (← Instr.buildSlice t n (parts.map fun (i, x) => (i, ev x))))) := rfl
          rw [hexec]
          have hg1 : Instr.fill (fun i => some (i * z.length, z.length)) ((Array.range (n * z.length)).map (zv.cells[· % zv.cells.size]!)) (parts.map fun (i, x) => (i, ev x)).toList = some r' := by
            rw [Array.toList_map, hzip]; exact g1
          by_cases hn : n * z.length = 0
          · have hr0 : ∀ f : Nat → Value, (Array.range (n * z.length)).map f = #[] := fun f => by rw [hn]; simp [Array.range_zero']
            rw [hr0] at hg1
            simp [Instr.buildSlice, run_underlying hu, run_sizeOf hsz, hr0, newRow, show ¬ 16777216 < n * z.length by omega]
            rw [if_pos (by simpa using hn)]
            simp at hg1
            simp [hg1]
          · simp at hg1
            simp [Instr.buildSlice, run_underlying hu, run_sizeOf hsz, newRow, show ¬ 16777216 < n * z.length by omega, hzr, hg1]
            exact fun h => absurd h hn
        · refine .mk_sl h (Nat.le_refl _) (Nat.le_refl _) rfl (fun _ => rfl) (fun _ => rfl) (fun _ h => absurd h (by omega))
      · cases hc
    · cases hc
  case call c =>
    exfalso
    obtain ⟨callee, args, at_⟩ := c
    cases callee with
    | builtin b => cases b <;> simp [opCls] at hcls
    | value f => simp [opCls] at hcls
    | invoke r n => simp [opCls] at hcls
  all_goals (simp [opCls] at hcls)
end
end Go.Adm
