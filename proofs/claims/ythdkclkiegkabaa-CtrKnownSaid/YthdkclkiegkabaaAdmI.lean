/- append. -/
import Derived.Test.YthdkclkiegkabaaAdmH
namespace Go.Adm

section
variable {P : Program} {ρ : LMap} {ev : Operand → Value} {m : Mem} {w : World}

/-- append within the capacity. -/
theorem append_room {st xt ty e e' : TypeId} {size : Nat} (hu : P.underlying st = some (.slice e)) (hxu : P.underlying xt = some (.slice e')) (hsz : sizeD P e = some size)
    {base : Option Addr} {len cap n : Nat} {x' : Value} {new : List Value} (hl : (Builtin.lenOf x').run P w = .ok n w) (hf : (Builtin.firstCells size n x').run P w = .ok new.toArray w) (hle : len + n ≤ cap) {w' : World}
    (hst : ∀ a, base = some a → (storeCells (a.add (len * size)) new).run P w = .ok () w') (hb : base = none → w' = w) :
    (Builtin.append_ #[st, xt] ty #[.slice base len cap, x']).run P w = .ok (.slice base (len + n) cap) w' := by
  cases base with
  | none =>
    obtain rfl := hb rfl
    simp [Builtin.append_, run_underlying hu, run_underlying hxu, run_sizeOf hsz, hl, hle, hf]
  | some a => simp [Builtin.append_, run_underlying hu, run_underlying hxu, run_sizeOf hsz, hl, hle, hf, hst a rfl]

/-- append beyond the capacity. -/
theorem append_grow {st xt ty e e' : TypeId} {i : TypeInfo} {z : Value} (hu : P.underlying st = some (.slice e)) (hxu : P.underlying xt = some (.slice e')) (hi : P.info? e = some i) (hz : i.zero = some z)
    {base : Option Addr} {len cap n : Nat} {x' : Value} {old new : List Value} (hl : (Builtin.lenOf x').run P w = .ok n w)
    (hfo : ∀ W : World, W.heap = w.heap → (Builtin.firstCells i.size len (.slice base len cap)).run P W = .ok old.toArray W)
    (hf : ∀ W : World, W.heap = w.heap → (Builtin.firstCells i.size n x').run P W = .ok new.toArray W) (hg : cap < len + n) (hb : (len + n) * i.bytes ≤ 1099511627776) (hc : len + n ≤ 1099511627776) :
    (Builtin.append_ #[st, xt] ty #[.slice base len cap, x']).run P w = .ok (.slice (some ⟨w.heap.size, 0, none⟩) (len + n) (grownCap w (len + n) cap e))
      (w.drew.alloc (.cells (old.toArray ++ new.toArray ++ Builtin.zeroCells z.cells (grownCap w (len + n) cap e - (len + n))) e)) := by
  have hn : ¬ (len + n ≤ cap) := by omega
  have h63' : ¬ (9223372036854775807 < ((len : Int) + (n : Int))) := by omega
  have hfit := growslice_fits (bytes := i.bytes) hg (by omega)
  have h48' : ¬ (281474976710656 < Builtin.nextslicecap (len + n) cap * i.bytes) := by omega
  have h1 := hf w.drew rfl
  have h2 := hfo w.drew rfl
  simp [Builtin.append_, run_underlying hu, run_underlying hxu, sizeOf, typeInfo, zeroValue, hi, hz, hl, hn, h63', h48', Question.forced, h1, h2, newRow, grownCap]
  congr 2
  apply Array.ext'
  simp [List.append_assoc]

theorem le_grownCap (w : World) (need old : Nat) (e : TypeId) : need ≤ grownCap w need old e := by
  simp only [grownCap, Question.cut]; omega

theorem zeroCells_size (z : Array Value) (n : Nat) : (Builtin.zeroCells z n).size = n * z.size := by simp [Builtin.zeroCells]

theorem Sim.drew (h : Sim m ρ w) : Sim m ρ w.drew := by
  refine ⟨h.lt, fun b L cells r hb hm => ?_, fun b L es c hb hm => ?_, h.apart⟩
  · exact (h.row b L cells r hb hm).mono (.refl _) rfl
  · exact (h.map b L es c hb hm).mono (.refl _) rfl

theorem Step.ofDrew {m' : Mem} {ρ' : LMap} {w' : World} (h : Step m m' ρ ρ' w.drew w') : Step m m' ρ ρ' w w' :=
  ⟨h.ab, h.old, h.new, h.os, h.tape, h.output, h.size, h.frame⟩

/-- A grown row: a new block whose first cells are these. -/
theorem grown_row {cells : List AV} {cs : List Value} (h : VRL ρ cells cs) (hf : cells.all AV.flat = true) (rest : Array Value) (e : TypeId) (lim : Nat) (hlim : cs.length + rest.size = lim) :
    RowAt ρ (w.alloc (.cells (cs.toArray ++ rest) e)) ⟨w.heap.size, 0, lim⟩ cells false := by
  have hl := h.length
  refine ⟨⟨cs.toArray ++ rest, e, (0, 0), alloc_get w _, by simp; omega, by simp; omega, fun i v hv => ?_, fun _ i _ => by omega⟩, hf⟩
  have hlt := lt_of_get hv
  have hg : (cs.toArray ++ rest)[0 + i]? = some (cs[i]'(by omega)) := by
    rw [Nat.zero_add, Array.getElem?_append_left (by simp; omega)]
    simp [show i < cs.length by omega]
  exact ⟨_, hg, h.get i v _ hv (by simp [show i < cs.length by omega])⟩

/-- The abstract block b is dead, and a new one takes its place, where the old one lay. -/
theorem Sim.regrow (h : Sim m ρ w) {w' : World} {b : Nat} {L L' : Loc} {cells cells' : List AV} (hb : ρ b = some L) (hm : m[b]? = some (.row cells false)) (hblk : L'.blk = L.blk) (hρ : ρ m.length = none)
    (hrow : RowAt ρ w' L' cells' false) (hw : ∀ B, B ≠ L.blk → w'.heap[B]? = w.heap[B]?) (hs : w'.heap.size = w.heap.size)
    (h1 : w'.os = w.os) (h2 : w'.tape = w.tape) (h3 : w'.output = w.output) :
    Sim (m.set b .dead ++ [.row cells' false]) (upd ρ m.length L') w' ∧ Step m (m.set b .dead ++ [.row cells' false]) ρ (upd ρ m.length L') w w' := by
  have hsub := upd_sub L' hρ
  have hlen : (m.set b Blk.dead).length = m.length := by simp
  have hlt := lt_of_get hm
  have look : ∀ (x : Nat) (k : Blk), x ≠ m.length → (m.set b Blk.dead ++ [.row cells' false])[x]? = some k → k.live = true → x ≠ b ∧ m[x]? = some k := by
    intro x k hx hk hl
    rw [← hlen] at hx
    have := get_append_ne hx hk
    by_cases e : b = x
    · subst e; rw [List.getElem?_set_self hlt] at this; cases this; cases hl
    · rw [List.getElem?_set_ne e] at this; exact ⟨Ne.symm e, this⟩
  have self : ∀ (k : Blk), (m.set b Blk.dead ++ [.row cells' false])[m.length]? = some k → k = .row cells' false := by
    intro k hk
    rw [← hlen, get_append_self] at hk
    cases hk; rfl
  have other : ∀ (x : Nat) (X : Loc) (k : Blk), x ≠ b → ρ x = some X → m[x]? = some k → k.live = true → X.blk ≠ L.blk := fun x X k hne hx hk hl =>
    h.apart x b X L k _ hne hx hb hk hm hl rfl (.inr rfl)
  refine ⟨⟨?_, ?_, ?_, ?_⟩, ⟨?_, ?_, ?_, h1, h2, h3, by omega, ?_⟩⟩
  · intro x X hx
    by_cases e : x = m.length
    · subst e; rw [upd_same] at hx; cases hx; rw [hs, hblk]; exact h.lt b L hb
    · rw [upd_ne _ _ e] at hx; rw [hs]; exact h.lt x X hx
  · intro x X cs r hx hk
    by_cases e : x = m.length
    · subst e; rw [upd_same] at hx; cases hx
      have := self _ hk
      cases this
      exact hrow.mono hsub rfl
    · rw [upd_ne _ _ e] at hx
      obtain ⟨g1, g2⟩ := look x _ e hk rfl
      exact (h.row x X cs r hx g2).mono hsub (hw _ (other x X _ g1 hx g2 rfl))
  · intro x X es c hx hk
    by_cases e : x = m.length
    · subst e
      have := self _ hk
      cases this
    · rw [upd_ne _ _ e] at hx
      obtain ⟨g1, g2⟩ := look x _ e hk rfl
      exact (h.map x X es c hx g2).mono hsub (hw _ (other x X _ g1 hx g2 rfl))
  · intro b1 b2 L1 L2 k1 k2 hne g1 g2 e1 e2 l1 l2 f
    by_cases c1 : b1 = m.length
    · subst c1
      rw [upd_same] at g1; cases g1
      have hne2 : b2 ≠ m.length := Ne.symm hne
      rw [upd_ne _ _ hne2] at g2
      obtain ⟨i1, i2⟩ := look b2 _ hne2 e2 l2
      rw [hblk]
      exact Ne.symm (other b2 L2 _ i1 g2 i2 l2)
    · rw [upd_ne _ _ c1] at g1
      obtain ⟨i1, i2⟩ := look b1 _ c1 e1 l1
      by_cases c2 : b2 = m.length
      · subst c2
        rw [upd_same] at g2; cases g2
        rw [hblk]
        exact other b1 L1 _ i1 g1 i2 l1
      · rw [upd_ne _ _ c2] at g2
        obtain ⟨j1, j2⟩ := look b2 _ c2 e2 l2
        exact h.apart b1 b2 L1 L2 k1 k2 hne g1 g2 i2 j2 l1 l2 f
  · exact (AStep.set hm rfl (fun l => by cases l)).trans (.push _ _)
  · intro x hx
    refine upd_ne _ _ ?_
    simp at hx
    omega
  · intro x X h1 h2 hx
    simp at h2
    obtain rfl : x = m.length := by omega
    rw [upd_same] at hx; cases hx
    exact .inr ⟨b, L, _, hb, hm, rfl, rfl, hblk⟩
  · intro B hB hno
    exact hw B fun e => hno b L _ hb hm rfl rfl e.symm

/-- The abstract block b is dead (if any), and a new block takes its place. -/
theorem Sim.newgrow (h : Sim m ρ w) {d : Mem} (hd : d.length = m.length) (hdead : ∀ (x : Nat) (k : Blk), d[x]? = some k → k.live = true → m[x]? = some k) (hab : AStep m d) (o : Obj) (lim : Nat) (cells' : List AV)
    (hρ : ρ m.length = none) (hrow : RowAt ρ (w.alloc o) ⟨w.heap.size, 0, lim⟩ cells' false) :
    Sim (d ++ [.row cells' false]) (upd ρ m.length ⟨w.heap.size, 0, lim⟩) (w.alloc o) ∧ Step m (d ++ [.row cells' false]) ρ (upd ρ m.length ⟨w.heap.size, 0, lim⟩) w (w.alloc o) := by
  refine ⟨h.put_new o hρ (k := .row cells' false) (by rw [← hd, get_append_self]) (fun x hx y hy hl => hdead x y (get_append_ne (by rw [hd]; exact hx) hy) hl) (fun cells r e => ?_) (fun es c e => by cases e), ?_⟩
  · cases e; exact hrow.mono (upd_sub _ hρ) rfl
  · have hp := Step.push (m := d) (ρ := ρ) (w := w) (.row cells' false) o lim
    refine ⟨hab.trans hp.ab, fun x hx => ?_, fun x X h1 h2 hx => ?_, rfl, rfl, rfl, hp.size, fun B hB _ => RowKit.Below.heap_alloc w o B hB⟩
    · simp only [List.length_append, List.length_singleton, hd] at hx
      exact upd_ne _ _ (by omega)
    · simp only [List.length_append, List.length_singleton, hd] at h2
      obtain rfl : x = m.length := by omega
      rw [upd_same] at hx; cases hx
      exact .inl (Nat.le_refl _)

theorem append_sound {dst : Option Tmp} {ty : TypeId} {pos : String} {af : Array Edge} {g : Option (Nat × Bool)} {st xt e e' : TypeId} {size bytes : Nat} {z : List AV} (hs : Sim m ρ w)
    (hu : P.underlying st = some (.slice e)) (hxu : P.underlying xt = some (.slice e')) (hsz : sizeD P e = some size) (hby : bytesD P e = some bytes) (hz : zeroD P e = some z) (hzl : z.length = size) (h0 : 0 < size)
    {x y : Operand} {s v r : AV} {m' : Mem} (hsv : VR ρ s (ev x)) (hv : VR ρ v (ev y)) (hfresh : Fresh m m' ρ)
    (h : aAppend size bytes s v m = some (r, m')) : Wrote P ρ m w (execOp ev ⟨dst, .call ⟨.builtin .append, #[x, y], #[st, xt]⟩, ty, pos, af, g⟩) r m' := by
  have hexec : ∀ W, (execOp ev ⟨dst, .call ⟨.builtin .append, #[x, y], #[st, xt]⟩, ty, pos, af, g⟩).run P W = ((Builtin.append_ #[st, xt] ty #[ev x, ev y]).run P W).andThen fun v w' => .ok (.value v) w' := by
    intro W
    simp [execOp, resolve, invoke, builtin]
  unfold zeroD at hz
  simp only [Option.bind_eq_some_iff] at hz
  obtain ⟨i, hi, zv, hzv, hzc⟩ := hz
  have hzs := (ofCells_VRL (ρ := ρ) hzc).length
  simp only [Array.length_toList] at hzs
  have hisz : i.size = size := by simpa [sizeD, hi] using hsz
  have hiby : i.bytes = bytes := by simpa [bytesD, hi] using hby
  unfold aAppend at h
  simp only [Option.bind_eq_some_iff] at h
  obtain ⟨n, hn, h⟩ := h
  have hlr := lenA_run (P := P) (w := w) hn hv
  split at h
  · rename_i hn0
    subst hn0
    split at h
    · rename_i hls
      cases h
      obtain ⟨ls, hls⟩ := Option.isSome_iff_exists.1 hls
      have hf : (Builtin.firstCells size 0 (ev y)).run P w = .ok (([] : List Value).toArray) w := by
        unfold lenA at hn
        split at hn <;> cases hn
        · cases hye : ev y <;> rw [hye] at hv <;> cases hv; simp [Builtin.firstCells]
        · obtain ⟨L, a, cap', hye, _⟩ := hv.sl_inv; simp [hye, Builtin.firstCells, loadCells, loadCellsFrom]
      refine ⟨.value (ev x), ev x, w, ρ, ?_, .inl rfl, hsv, hs, .refl _ _ _⟩
      rw [hexec]
      unfold lenA at hls
      split at hls <;> cases hls
      · cases hxe : ev x <;> rw [hxe] at hsv <;> cases hsv
        rw [append_room hu hxu hsz hlr hf (Nat.le_refl 0) (w' := w) (fun a h => by cases h) (fun _ => rfl)]
        rfl
      · obtain ⟨L, a, cap', hxe, _, hlc, hcc, _⟩ := hsv.sl_inv
        rw [hxe, append_room hu hxu hsz hlr hf (by omega) (w' := w) (fun a h => rfl) (fun _ => rfl)]
        rfl
    · cases h
  · rename_i hn0
    simp only [Option.bind_eq_some_iff] at h
    obtain ⟨new, hnew, h⟩ := h
    obtain ⟨cs, c1, c2, c3, c4, c5⟩ := elems_run (P := P) hnew hv hs
    have hcl := c2.length
    split at h
    · split at h
      · rename_i hsmall
        cases h
        cases hxe : ev x <;> rw [hxe] at hsv <;> cases hsv
        have hfr : ρ m.length = none := hfresh _ (Nat.le_refl _) (by simp)
        have hr := append_grow (P := P) (w := w) (ty := ty) hu hxu hi hzv (base := none) (len := 0) (cap := 0) (old := []) hlr (fun W _ => by simp [Builtin.firstCells])
          (fun W hW => by rw [hisz]; exact c5 W hW) (by omega) (by rw [hiby, Nat.zero_add]; exact hsmall.1) (by omega)
        simp only [Nat.zero_add] at hr
        have hgc := le_grownCap w n 0 e
        have hrow := grown_row (w := w.drew) c2 c3 (Builtin.zeroCells zv.cells (grownCap w n 0 e - n)) e (grownCap w n 0 e * size) (by
          rw [zeroCells_size, ← hzs, hzl, c1, ← Nat.add_mul]; congr 1; omega)
        obtain ⟨g1, g2⟩ := hs.drew.newgrow (d := m) rfl (fun _ _ h _ => h) (.refl m) _ _ _ hfr hrow
        refine ⟨.value (.slice (some ⟨w.heap.size, 0, none⟩) n (grownCap w n 0 e)), .slice (some ⟨w.heap.size, 0, none⟩) n (grownCap w n 0 e), _, _, ?_, .inl rfl, ?_, g1, g2.ofDrew⟩
        · rw [hexec, hxe, hr]
          simp
        · refine .mk_sl (upd_same _ _ _) (Nat.le_refl _) hgc rfl (fun h => absurd h (by omega)) (fun _ => rfl) (fun _ _ => ?_)
          simp
      · cases h
    · rename_i b o len cap sz
      obtain ⟨L, a, cap', hxe, hρ, hlc, hcc, hspot, hex, haddr, hlim⟩ := hsv.sl_inv
      split at h
      · rename_i hle
        simp only [Option.bind_eq_some_iff] at h
        obtain ⟨cells, hc, h⟩ := h
        split at h
        · rename_i hh
          cases h
          have ha := haddr (by omega)
          obtain ⟨w', g1, g2, g3⟩ := put_cells (P := P) (o := o + len * size) hs hρ hc c2 (by
            rw [hcl, c1]; have := hh.1; rw [Nat.add_mul] at this; omega) c3
          refine ⟨.value (.slice (some a) (len + n) cap'), .slice (some a) (len + n) cap', w', ρ, ?_, .inl rfl, ?_, g2, g3⟩
          · rw [hexec, hxe, append_room hu hxu hsz hlr c4 (by omega) (w' := w') (fun a' h => by cases h; rw [ha, addr_add]; exact g1) (fun h => by cases h)]
            rfl
          · exact .mk_sl hρ hle hcc hspot hex haddr hlim
        · cases h
      · rename_i hgt
        split at h
        · rename_i hsmall
          simp only [Option.bind_eq_some_iff] at h
          obtain ⟨old, hold, h⟩ := h
          obtain ⟨os, o1, o2, o3, o4, o5⟩ := elems_run (P := P) hold hsv hs
          have hol := o2.length
          have grow : ∀ (d : Mem), d.length = m.length → (∀ (x : Nat) (k : Blk), d[x]? = some k → k.live = true → m[x]? = some k) → AStep m d → m' = d ++ [.row (old ++ new) false] → cap' < len + n →
              r = .sl m.length 0 (len + n) (len + n) size → Wrote P ρ m w (execOp ev ⟨dst, .call ⟨.builtin .append, #[x, y], #[st, xt]⟩, ty, pos, af, g⟩) r m' := by
            intro d hd hdead hab hm' hlt hr
            subst hm' hr
            have hfr : ρ m.length = none := hfresh _ (Nat.le_refl _) (by simp [hd])
            have hr := append_grow (P := P) (w := w) (ty := ty) hu hxu hi hzv (base := some a) (len := len) (cap := cap') hlr (fun W hW => by rw [hisz, ← hxe]; exact o5 W hW)
              (fun W hW => by rw [hisz]; exact c5 W hW) hlt (by rw [hiby]; omega) (by omega)
            have hgc := le_grownCap w (len + n) cap' e
            have hrow := grown_row (w := w.drew) (o2.append c2) (by rw [List.all_append, o3, c3]; rfl) (Builtin.zeroCells zv.cells (grownCap w (len + n) cap' e - (len + n))) e (grownCap w (len + n) cap' e * size) (by
              rw [zeroCells_size, ← hzs, hzl, List.length_append, o1, c1, ← Nat.add_mul, ← Nat.add_mul]; congr 1; omega)
            obtain ⟨g1, g2⟩ := hs.drew.newgrow (d := d) hd hdead hab _ _ _ hfr hrow
            refine ⟨.value (.slice (some ⟨w.heap.size, 0, none⟩) (len + n) (grownCap w (len + n) cap' e)), .slice (some ⟨w.heap.size, 0, none⟩) (len + n) (grownCap w (len + n) cap' e), _, _, ?_, .inl rfl, ?_, g1, g2.ofDrew⟩
            · rw [hexec, hxe, hr]
              simp
            · refine .mk_sl (upd_same _ _ _) (Nat.le_refl _) hgc rfl (fun h => absurd h (by omega)) (fun _ => rfl) (fun _ _ => ?_)
              simp
          split at h
          · cases h
            refine grow m rfl (fun _ _ h _ => h) (.refl m) rfl ?_ rfl
            rw [hex rfl]; omega
          · rename_i sz'
            simp only [Option.bind_eq_some_iff] at h
            obtain ⟨cells, hc, h⟩ := h
            split at h
            · rename_i hh
              cases h
              obtain ⟨hend, hszs⟩ := hh
              have hcm := own_some hc
              have hltm := lt_of_get hcm
              by_cases hin : len + n ≤ cap'
              · -- in place
                have ha := haddr (by omega)
                have hli := hlim (by omega) (by omega)
                rw [hszs] at hli
                obtain ⟨C, te, fz, q1, q2, q3, q4, q5⟩ := (hs.row b L cells false hρ hcm).ex
                have hprod : (len + n) * size ≤ cap' * size := Nat.mul_le_mul_right _ hin
                have hprod2 : len * size + n * size = (len + n) * size := (Nat.add_mul _ _ _).symm
                have hprod3 : len * size ≤ cap * size := Nat.mul_le_mul_right _ hlc
                obtain ⟨C', w', g1, g2, g3, g4, g5, g6, g7, g8⟩ := run_storeCells_row (P := P) (B := L.blk) (off := L.base + (o + len * size)) cs 0 C w q1 (by omega) (fun j hj => q5 rfl j (by omega)) (c2.oneCells c3)
                have hfr : ρ m.length = none := hfresh _ (Nat.le_refl _) (by simp)
                have hCs : C'.size = C.size := by
                  have := congrArg List.length g3
                  simp at this
                  omega
                have hold' : old = (cells.drop o).take (len * size) := by
                  unfold elems at hold
                  simp only at hold
                  split at hold
                  · rename_i hz0
                    cases hold
                    rw [hz0]; simp
                  · rw [if_pos (Nat.le_refl _)] at hold
                    simp only [rowOf, hcm, Option.bind_some] at hold
                    split at hold <;> cases hold
                    rfl
                have hrow : RowAt ρ w' ⟨L.blk, L.base + o, L.lim⟩ (old ++ new) false := by
                  refine ⟨⟨C', te, fz, g2, by simp; omega, by simp; omega, fun k v hv => ?_, fun _ k hk => q5 rfl k hk⟩, by rw [List.all_append, o3, c3]; rfl⟩
                  have hk := lt_of_get hv
                  simp only [List.length_append] at hk
                  have hcat : C'[L.base + o + k]? = (C.toList.take (L.base + (o + len * size)) ++ (cs ++ C.toList.drop (L.base + (o + len * size) + cs.length)))[L.base + o + k]? := by
                    rw [← Array.getElem?_toList, g3]
                    simp only [Nat.add_zero, List.append_assoc]
                  show ∃ v', C'[L.base + o + k]? = some v' ∧ VR ρ v v'
                  rw [hcat]
                  have hm1 : (C.toList.take (L.base + (o + len * size))).length = L.base + (o + len * size) := by
                    rw [List.length_take, Array.length_toList, Nat.min_eq_left (by omega)]
                  by_cases hk2 : k < len * size
                  · rw [List.getElem?_append_left (by omega), List.getElem?_take_of_lt (by omega), Array.getElem?_toList]
                    rw [List.getElem?_append_left (by omega), hold', List.getElem?_take_of_lt hk2, List.getElem?_drop] at hv
                    have := q4 _ _ hv
                    rwa [show L.base + (o + k) = L.base + o + k by omega] at this
                  · rw [List.getElem?_append_right (by omega), hm1, List.getElem?_append_left (by omega)]
                    rw [List.getElem?_append_right (by omega)] at hv
                    have e1 : L.base + o + k - (L.base + (o + len * size)) = k - old.length := by omega
                    rw [e1]
                    have hlt2 := lt_of_get hv
                    exact ⟨cs[k - old.length]'(by omega), by simp [show k - old.length < cs.length by omega], c2.get _ _ _ hv (by simp [show k - old.length < cs.length by omega])⟩
                obtain ⟨s1, s2⟩ := hs.regrow hρ hcm (L' := ⟨L.blk, L.base + o, L.lim⟩) rfl hfr hrow g4 g5 g6 g7 g8
                refine ⟨.value (.slice (some a) (len + n) cap'), .slice (some a) (len + n) cap', w', _, ?_, .inl rfl, ?_, s1, s2⟩
                · rw [hexec, hxe, append_room hu hxu hsz hlr c4 hin (w' := w') (fun a' h => by cases h; rw [ha, addr_add]; exact g1) (fun h => by cases h)]
                  rfl
                · refine .mk_sl (upd_same _ _ _) (Nat.le_refl _) hin hspot (fun h => absurd h (by omega)) (fun _ => by rw [ha]; simp [Loc.addr]) (fun _ _ => ?_)
                  simp; omega
              · refine grow (m.set b .dead) (by simp) (fun x k hx hl => ?_) (.set hcm rfl (fun l => by cases l)) rfl (by omega) rfl
                by_cases e : b = x
                · subst e; rw [List.getElem?_set_self hltm] at hx; cases hx; cases hl
                · rw [List.getElem?_set_ne e] at hx; exact hx
            · cases h
        · cases h
    · cases h

theorem write_sound {o : Oper} {k : AK} {xs : List Operand} {vs : List AV} {v : AV} {m' : Mem} (hc : ckOp P o.op = some (k, xs)) (hk : k.cls = .write) (ha : aW k vs m = some (v, m'))
    (hv : VRL ρ vs (xs.map ev)) (hs : Sim m ρ w) (hf : Fresh m m' ρ) : Wrote P ρ m w (execOp ev o) v m' := by
  have hcls := ck_cls hc
  rw [hk] at hcls
  obtain ⟨dst, op, ty, pos, af, g⟩ := o
  cases op
  case store t a x =>
    simp only [ckOp, Option.map_eq_some_iff] at hc
    obtain ⟨n, hn, hc⟩ := hc
    cases hc
    obtain ⟨p, q, rfl, h1, h2⟩ := hv.map2
    exact store_sound hs hn h1 h2 ha
  case call c =>
    obtain ⟨callee, args, at_⟩ := c
    cases callee with
    | value f => simp [opCls] at hcls
    | invoke r n => simp [opCls] at hcls
    | builtin b =>
      cases b <;> simp [opCls] at hcls
      · simp only [ckOp] at hc
        split at hc
        · rename_i st xt s x hat hax
          split at hc
          · rename_i e e' hu hxu
            simp only [Option.bind_eq_some_iff] at hc
            obtain ⟨z, hz, b, hb, hc⟩ := hc
            split at hc
            · rename_i hh
              cases hc
              obtain rfl : at_ = #[st, xt] := by apply Array.ext'; simpa using hat
              obtain rfl : args = #[s, x] := by apply Array.ext'; simpa using hax
              obtain ⟨p, q, rfl, h1, h2⟩ := hv.map2
              exact append_sound hs hu hxu hh.1 hb hz rfl hh.2 h1 h2 hf ha
            · cases hc
          · cases hc
        · cases hc
      · simp only [ckOp] at hc
        split at hc
        · rename_i st xt s x hat hax
          split at hc
          · rename_i e hu
            simp only [Option.bind_eq_some_iff] at hc
            obtain ⟨z, hz, hc⟩ := hc
            split at hc
            · rename_i hh
              cases hc
              obtain rfl : at_ = #[st, xt] := by apply Array.ext'; simpa using hat
              obtain rfl : args = #[s, x] := by apply Array.ext'; simpa using hax
              obtain ⟨p, q, rfl, h1, h2⟩ := hv.map2
              exact copy_sound hs hu hz h1 h2 ha
            · cases hc
          · cases hc
        · cases hc
  all_goals (simp [opCls] at hcls)
end
end Go.Adm
