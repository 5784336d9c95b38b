/- Operations that write memory. -/
import Derived.Test.YthdkclkiegkabaaAdmG
import Derived.Laws.IdiomCopy
namespace Go.Adm

theorem flat_oneCell {ρ : LMap} {a : AV} {x : Value} (h : VR ρ a x) (hf : a.flat = true) : x.oneCell' = true := by
  cases h <;> first | rfl | simp [AV.flat] at hf

/-- A run of cells stored one behind the other. -/
theorem run_storeCells_row {P : Program} {B off : Nat} {e : TypeId} {fz : Nat × Nat} : ∀ (vs : List Value) (i : Nat) (C : Array Value) (w : World), w.heap[B]? = some (.cells C e fz) → off + i + vs.length ≤ C.size →
    (∀ j, j < C.size → ¬ (fz.1 ≤ j ∧ j < fz.2)) → (∀ v ∈ vs, v.oneCell' = true) →
    ∃ C' w', (storeCells ⟨B, off, none⟩ vs i).run P w = .ok () w' ∧ w'.heap[B]? = some (.cells C' e fz) ∧ C'.toList = C.toList.take (off + i) ++ vs ++ C.toList.drop (off + i + vs.length) ∧
      (∀ B', B' ≠ B → w'.heap[B']? = w.heap[B']?) ∧ w'.heap.size = w.heap.size ∧ w'.os = w.os ∧ w'.tape = w.tape ∧ w'.output = w.output := by
  intro vs
  induction vs with
  | nil => intro i C w h _ _ _; exact ⟨C, w, rfl, h, by simp, fun _ _ => rfl, rfl, rfl, rfl, rfl⟩
  | cons v vs ih =>
    intro i C w h hl hf h1
    simp only [List.length_cons] at hl
    have hadd : (⟨B, off, none⟩ : Addr).add i = ⟨B, off + i, none⟩ := by unfold Addr.add; split <;> simp_all
    have hc : w.cell? ⟨B, off + i, none⟩ = some (C[off + i]'(by omega)) := by simp [World.cell?, h, show off + i < C.size by omega]
    have hfr : w.frozen? ⟨B, off + i, none⟩ = false := by
      have := hf (off + i) (by omega)
      obtain ⟨lo, hi⟩ := fz
      simp only [World.frozen?, h]
      simpa using this
    have hst : (store ((⟨B, off, none⟩ : Addr).add i) v).run P w = .ok () (w.setCell ⟨B, off + i, none⟩ v) := by
      rw [hadd, run_store P w _ v _ (h1 v (by simp))]
      simp [hc, hfr]
    have hh : (w.setCell ⟨B, off + i, none⟩ v).heap[B]? = some (.cells (C.setIfInBounds (off + i) v) e fz) := by
      simp only [World.setCell, Array.getElem?_modify, h]
      simp
    obtain ⟨C', w', g1, g2, g3, g4, g5, g6, g7, g8⟩ := ih (i + 1) (C.setIfInBounds (off + i) v) _ hh (by simp; omega) (fun j hj => hf j (by simpa using hj)) (fun x hx => h1 x (by simp [hx]))
    refine ⟨C', w', ?_, g2, ?_, fun B' hB => ?_, ?_, g6, g7, g8⟩
    · simp only [storeCells, Sem.run_bind, hst, Result.andThen_ok, g1]
    · rw [g3]
      have := foldl_put off (v :: vs) C i (by simp; omega)
      have h2 := foldl_put off vs (C.setIfInBounds (off + i) v) (i + 1) (by simp; omega)
      rw [List.zipIdx_cons, List.foldl_cons, h2] at this
      exact this
    · rw [g4 B' hB]; exact RowKit.Below.heap_setCell w _ _ _ hB
    · rw [g5]; simp [World.setCell]

section
variable {P : Program} {ρ : LMap} {ev : Operand → Value} {m : Mem} {w : World}

theorem splice_length {cells new : List AV} {o : Nat} (h : o + new.length ≤ cells.length) : (splice cells o new).length = cells.length := by
  simp [splice]; omega

/-- What a write answers, and where. -/
def Wrote (P : Program) (ρ : LMap) (m : Mem) (w : World) (s : Sem Next) (v : AV) (m' : Mem) : Prop :=
  ∃ nx v' w' ρ', s.run P w = .ok nx w' ∧ (nx = .value v' ∨ (nx = .skip ∧ v' = undef)) ∧ VR ρ' v v' ∧ Sim m' ρ' w' ∧ Step m m' ρ ρ' w w'

theorem VRL.oneCells {l : List AV} {r : List Value} (h : VRL ρ l r) (hf : l.all AV.flat = true) : ∀ v ∈ r, v.oneCell' = true := by
  induction h with
  | nil => intro v hv; cases hv
  | cons a _ ih =>
    simp only [List.all_cons, Bool.and_eq_true] at hf
    intro v hv
    cases hv with
    | head => exact flat_oneCell a hf.1
    | tail _ hv => exact ih hf.2 v hv

/-- Cells of a row that may be written are written over. -/
theorem put_cells (hs : Sim m ρ w) {b o : Nat} {L : Loc} {cells new : List AV} {new' : List Value} (hb : ρ b = some L) (hm : own m b = some cells) (hn : VRL ρ new new') (hle : o + new.length ≤ cells.length)
    (hnf : new.all AV.flat = true) : ∃ w', (storeCells (L.addr o) new').run P w = .ok () w' ∧ Sim (m.set b (.row (splice cells o new) false)) ρ w' ∧ Step m (m.set b (.row (splice cells o new) false)) ρ ρ w w' := by
  have hm := own_some hm
  have hflat := hn.oneCells hnf
  have hnl := hn.length
  obtain ⟨C, e, fz, h1, h2, h3, h4, h5⟩ := (hs.row b L cells false hb hm).ex
  obtain ⟨C', w', g1, g2, g3, g4, g5, g6, g7, g8⟩ := run_storeCells_row (P := P) (off := L.base + o) new' 0 C w h1 (by omega) (fun j hj => h5 rfl j (by omega)) hflat
  have hlt := lt_of_get hm
  refine ⟨w', g1, ?_, ?_⟩
  · refine hs.change hb hm (cells' := splice cells o new) (by rw [List.getElem?_set_self hlt]) (fun x hx => by rw [List.getElem?_set_ne (Ne.symm hx)]) ?_ g4 g5
    have hsz : C'.size = C.size := by
      have := congrArg List.length g3
      simp at this
      omega
    refine ⟨⟨C', e, fz, g2, by omega, by rw [splice_length hle]; omega, fun i v hv => ?_, fun _ i hi => h5 rfl i hi⟩, all_splice (hs.row b L cells false hb hm).flat hnf _⟩
    have hvr : VRL ρ (splice cells o new) ((C.toList.drop L.base).take o ++ new' ++ ((C.toList.drop L.base).drop (o + new'.length)).take (cells.length - (o + new'.length))) := by
      have hc : VRL ρ cells ((C.toList.drop L.base).take cells.length) := by
        refine .of _ _ (by simp; omega) fun i x y hx hy => ?_
        have hi := lt_of_get hx
        rw [List.getElem?_take_of_lt hi, List.getElem?_drop, Array.getElem?_toList] at hy
        obtain ⟨v', a1, a2⟩ := h4 i x hx
        rw [a1] at hy; cases hy; exact a2
      have q1 := hc.take o
      have q2 := hc.drop (o + new.length)
      rw [List.take_take, Nat.min_eq_left (by omega)] at q1
      rw [List.drop_take, hnl] at q2
      unfold splice
      rw [hnl]
      exact (q1.append hn).append q2
    have hi := lt_of_get hv
    rw [splice_length hle] at hi
    have e1 : C'.toList.drop L.base = (C.toList.drop L.base).take o ++ new' ++ (C.toList.drop L.base).drop (o + new'.length) := by
      have m1 : L.base ≤ (C.toList.take (L.base + o)).length := by
        rw [List.length_take, Array.length_toList, Nat.min_eq_left (by omega)]; omega
      rw [g3, Nat.add_zero, List.append_assoc, List.drop_append_of_le_length m1, List.drop_take, List.drop_drop, List.append_assoc]
      rw [show L.base + o - L.base = o by omega, show L.base + o + new'.length = L.base + (o + new'.length) by omega]
    have hy : C'[L.base + i]? = ((C.toList.drop L.base).take o ++ new' ++ ((C.toList.drop L.base).drop (o + new'.length)).take (cells.length - (o + new'.length)))[i]? := by
      have e2 : C'[L.base + i]? = (C'.toList.drop L.base)[i]? := by rw [List.getElem?_drop, Array.getElem?_toList]
      have hlen := hvr.length
      rw [splice_length hle] at hlen
      rw [e2, e1, ← List.take_append_drop (cells.length - (o + new'.length)) ((C.toList.drop L.base).drop (o + new'.length)), ← List.append_assoc, List.getElem?_append_left (by omega), List.take_append_drop]
    obtain ⟨y, hy2⟩ : ∃ y, C'[L.base + i]? = some y := ⟨C'[L.base + i]'(by omega), by simp [show L.base + i < C'.size by omega]⟩
    exact ⟨y, hy2, hvr.get i v y hv (by rw [← hy, hy2])⟩
  · exact .change hb hm rfl rfl rfl g4 g5 g6 g7 g8

theorem elems_run {size n : Nat} {v : AV} {v' : Value} {new : List AV} (h : elems size n v m = some new) (hv : VR ρ v v') (hs : Sim m ρ w) :
    ∃ cs : List Value, cs.length = n * size ∧ VRL ρ new cs ∧ new.all AV.flat = true ∧ (Builtin.firstCells size n v').run P w = .ok cs.toArray w ∧ ∀ W : World, W.heap = w.heap → (Builtin.firstCells size n v').run P W = .ok cs.toArray W := by
  unfold elems at h
  split at h
  · split at h
    · rename_i hn
      cases h; cases hv; subst hn
      exact ⟨[], by simp, .nil, rfl, by simp [Builtin.firstCells], fun W _ => by simp [Builtin.firstCells]⟩
    · cases h
  · obtain ⟨L, a, cap', rfl, hρ, hlc, hcc, hspot, _, haddr, _⟩ := hv.sl_inv
    split at h
    · rename_i hn
      cases h; subst hn
      exact ⟨[], by simp, .nil, rfl, by simp [Builtin.firstCells, loadCells, loadCellsFrom], fun W _ => by simp [Builtin.firstCells, loadCells, loadCellsFrom]⟩
    · split at h
      · simp only [Option.bind_eq_some_iff] at h
        obtain ⟨cells, hr, h⟩ := h
        split at h
        · rename_i hle
          cases h
          obtain ⟨cs, c1, c2, c3⟩ := hs.cells hρ hr hle
          rw [haddr (by omega)]
          refine ⟨cs, c1, c2, all_take (all_drop (hs.flat hρ hr) _) _, run_firstCells_some w size n _ _ _ cs c1 c3, fun W hW => run_firstCells_some W size n _ _ _ cs c1 fun j v hv => ?_⟩
          have := c3 j v hv
          unfold World.cell? at this ⊢
          rw [hW]; exact this
        · cases h
      · cases h
  · cases h

theorem lenA_run {x : AV} {x' : Value} {n : Nat} (h : lenA x = some n) (hv : VR ρ x x') : (Builtin.lenOf x').run P w = .ok n w := by
  unfold lenA at h
  split at h <;> cases h
  · cases hv; simp [Builtin.lenOf]
  · obtain ⟨L, a, cap', rfl, _⟩ := hv.sl_inv; simp [Builtin.lenOf]


theorem store_sound {dst : Option Tmp} {ty : TypeId} {pos : String} {af : Array Edge} {g : Option (Nat × Bool)} {t : TypeId} {n : Nat} (hs : Sim m ρ w) (ht : sizeD P t = some n) {x y : Operand} {p v r : AV} {m' : Mem} (hp : VR ρ p (ev x)) (hv : VR ρ v (ev y))
    (h : aStore n p v m = some (r, m')) : Wrote P ρ m w (execOp ev ⟨dst, .store t x y, ty, pos, af, g⟩) r m' := by
  unfold aStore at h
  split at h
  · rename_i b o
    simp only [Option.bind_eq_some_iff] at h
    obtain ⟨cells, hc, h⟩ := h
    split at h
    · rename_i hh
      cases h
      cases hx : ev x <;> rw [hx] at hp <;> cases hp
      rename_i L hρ
      have hcv := hv.cells
      have hl := hcv.length
      obtain ⟨w', g1, g2, g3⟩ := put_cells (P := P) (o := o) hs hρ hc hcv (by omega) (hv.cells_flat hh.2.2)
      refine ⟨.skip, undef, w', ρ, ?_, .inr ⟨rfl, rfl⟩, .mk_tup' (l := []) (cs := #[]) .nil, g2, g3⟩
      simp only [Array.length_toList] at hl
      simp [execOp, hx, Instr.storeAt, Instr.sureAddr, storeVar, run_sizeOf ht, ← hl, hh.1, g1]
    · cases h
  · cases h

theorem copy_sound {dst : Option Tmp} {ty : TypeId} {pos : String} {af : Array Edge} {g : Option (Nat × Bool)} {dT sT e : TypeId} {size : Nat} (hs : Sim m ρ w) (hu : P.underlying dT = some (.slice e)) (hsz : sizeD P e = some size)
    {x y : Operand} {d v r : AV} {m' : Mem} (hd : VR ρ d (ev x)) (hv : VR ρ v (ev y))
    (h : aCopy size d v m = some (r, m')) : Wrote P ρ m w (execOp ev ⟨dst, .call ⟨.builtin .copy, #[x, y], #[dT, sT]⟩, ty, pos, af, g⟩) r m' := by
  have hexec : ∀ W, (execOp ev ⟨dst, .call ⟨.builtin .copy, #[x, y], #[dT, sT]⟩, ty, pos, af, g⟩).run P W = ((Builtin.copy_ #[dT, sT] ty #[ev x, ev y]).run P W).andThen fun v w' => .ok (.value v) w' := by
    intro W
    simp [execOp, resolve, invoke, builtin]
  unfold aCopy at h
  simp only [Option.bind_eq_some_iff] at h
  obtain ⟨ln, hln, ld, hld, h⟩ := h
  have hlr := lenA_run (P := P) (w := w) hln hv
  split at h
  · rename_i hn
    cases h
    refine ⟨.value (.int .i64 0), .int .i64 0, w, ρ, ?_, .inl rfl, .int _ _, hs, .refl _ _ _⟩
    rw [hexec]
    unfold lenA at hld
    split at hld <;> cases hld
    · cases hxe : ev x <;> rw [hxe] at hd <;> cases hd
      have hf : (Builtin.firstCells size 0 (ev y)).run P w = .ok #[] w := by
        unfold lenA at hln
        split at hln <;> cases hln
        · cases hye : ev y <;> rw [hye] at hv <;> cases hv; simp [Builtin.firstCells]
        · obtain ⟨L, a, cap', hye, _⟩ := hv.sl_inv; simp [hye, Builtin.firstCells, loadCells, loadCellsFrom]
      simp [Builtin.copy_, run_underlying hu, run_sizeOf hsz, hlr, hf, goInt]
    · obtain ⟨L, a, cap', hxe, _⟩ := hd.sl_inv
      have hf : (Builtin.firstCells size 0 (ev y)).run P w = .ok #[] w := by
        unfold lenA at hln
        split at hln <;> cases hln
        · cases hye : ev y <;> rw [hye] at hv <;> cases hv; simp [Builtin.firstCells]
        · obtain ⟨L, a, cap', hye, _⟩ := hv.sl_inv; simp [hye, Builtin.firstCells, loadCells, loadCellsFrom]
      have hm0 : min ln _ = 0 := hn
      simp [Builtin.copy_, run_underlying hu, run_sizeOf hsz, hlr, hxe, hm0, hf, goInt, storeCells]
  · rename_i hn
    simp only [Option.bind_eq_some_iff] at h
    obtain ⟨new, hnew, h⟩ := h
    split at h
    · rename_i b o len cap s
      simp only [Option.bind_eq_some_iff] at h
      obtain ⟨cells, hc, h⟩ := h
      split at h
      · rename_i hle
        cases h
        simp only [lenA, Option.some.injEq] at hld
        subst hld
        obtain ⟨L, a, cap', hxe, hρ, hlc, hcc, hspot, _, haddr, _⟩ := hd.sl_inv
        have hlen : 0 < len := by
          have : Nat.min ln len ≤ len := Nat.min_le_right _ _
          omega
        rw [haddr (by omega)] at hxe
        obtain ⟨cs, c1, c2, hflat, c3, _⟩ := elems_run (P := P) hnew hv hs
        have hl := c2.length
        obtain ⟨w', g1, g2, g3⟩ := put_cells (P := P) hs hρ hc c2 (by rw [hl, c1]; exact hle) hflat
        refine ⟨.value (.int .i64 (Nat.min ln len)), .int .i64 (Nat.min ln len), w', ρ, ?_, .inl rfl, .int _ _, g2, g3⟩
        rw [hexec]
        have : (Builtin.firstCells size (min ln len) (ev y)).run P w = .ok cs.toArray w := c3
        simp [Builtin.copy_, run_underlying hu, run_sizeOf hsz, hlr, hxe, this, g1, goInt]
      · cases h
    · cases h
end
end Go.Adm
