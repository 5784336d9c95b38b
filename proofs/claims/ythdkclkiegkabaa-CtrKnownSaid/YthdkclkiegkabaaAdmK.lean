/- Runs of operations, one behind the other; control; calls. -/
import Derived.Test.YthdkclkiegkabaaAdmJ
namespace Go.Adm

def wantedA (g : Option (Nat × Bool)) (t : AFr) : Option Bool :=
  match g with
  | none => some true
  | some (j, want) => match t.get j with
    | some (.bool b) => some (b == want)
    | some (.tup []) => some false
    | _ => none

/-- One operation, abstract, in a frame. -/
inductive Local (P : Program) (o : AOper) (t : AFr) (m : Mem) : AV → Mem → Prop where
  | yes {vs : List AV} {v : AV} {m' : Mem} : wantedA o.g t = some true → evalAll t o.xs = some vs → OpTo P o.k vs m v m' → Local P o t m v m'
  | no : wantedA o.g t = some false → Local P o t m undefA m

theorem Local.astep {P : Program} {o : AOper} {t : AFr} {m : Mem} {v : AV} {m' : Mem} (h : Local P o t m v m') : AStep m m' := by
  cases h with
  | yes _ _ h => exact h.astep
  | no => exact .refl _

inductive Seq (P : Program) : List AOper → AFr → Mem → AFr → Mem → Prop where
  | nil {t : AFr} {m : Mem} : Seq P [] t m t m
  | cons {o : AOper} {r : List AOper} {t t' : AFr} {m m1 m' : Mem} {v : AV} : Local P o t m v m1 → Seq P r (t.put o.dst v) m1 t' m' → Seq P (o :: r) t m t' m'

theorem Seq.astep {P : Program} {l : List AOper} {t t' : AFr} {m m' : Mem} (h : Seq P l t m t' m') : AStep m m' := by
  induction h with
  | nil => exact .refl _
  | cons h _ ih => exact h.astep.trans ih

section
variable {P : Program} {n : Nat}

theorem wanted_ck {ops : Array Oper} {o : Oper} {g : Option (Nat × Bool)} (hg : ckGuard n ops.toList o.guard = some g) {t : AFr} {b : Bool} (hw : wantedA g t = some b) {ρ : LMap} {tmps : Array Value} (hf : FR n ρ t tmps) :
    Region.wanted o (yielded ops tmps) = b := by
  unfold ckGuard at hg
  unfold Region.wanted
  split at hg
  · rename_i h
    cases hg
    simp only [wantedA, Option.some.injEq] at hw
    rw [h]; exact hw
  · rename_i j want h
    rw [h]
    split at hg
    · rename_i oj hj
      simp only [Option.bind_eq_some_iff] at hg
      obtain ⟨d, hd, hg⟩ := hg
      split at hg
      · rename_i hdn
        cases hg
        have hs := hf.size
        have hj' : ops[j]? = some oj := by simpa using hj
        have hdt : (d : Nat) < tmps.size := Nat.lt_of_lt_of_le hdn hs
        have hval : tmps[d]? = some (tmps.getD d undef) := by
          simp [hdt]
        simp only [wantedA] at hw
        show (yielded ops tmps j == some want) = b
        have hy : yielded ops tmps j = (match tmps.getD d undef with | .bool b => some b | _ => none) := by
          simp only [yielded, hj', Option.bind_some, hd, hval]
          cases tmps.getD d undef <;> rfl
        split at hw
        · rename_i b' hb
          cases hw
          have hv := hf.at_ _ _ hb
          rw [hy]
          generalize tmps.getD d undef = q at hv
          cases hv
          cases b' <;> cases want <;> rfl
        · rename_i hb
          cases hw
          have hv := hf.at_ _ _ hb
          rw [hy]
          generalize tmps.getD d undef = q at hv
          obtain ⟨cs, rfl, _⟩ := hv.tup_inv
          rfl
        · cases hw
      · cases hg
    · cases hg
  
theorem ckOper_spec {ops : List Oper} {o : Oper} {lo hi : Nat} {ao : AOper} (h : ckOper P n ops o lo hi = some ao) :
    ao.dst = o.dst ∧ (∀ d, o.dst = some d → d < n) ∧ ckGuard n ops o.guard = some ao.g ∧ ao.lo = lo ∧ ao.hi = hi ∧ ∃ xs, ckOp P o.op = some (ao.k, xs) ∧ ckXs xs = some ao.xs := by
  unfold ckOper at h
  simp only [Option.bind_eq_some_iff] at h
  obtain ⟨⟨k, xs⟩, h1, ys, h2, g, h3, h⟩ := h
  split at h
  · rename_i hd
    cases h
    refine ⟨rfl, fun d e => ?_, h3, rfl, rfl, xs, h1, h2⟩
    rw [e] at hd
    simpa [dstOk] using hd
  · cases h

/-- One operation in a region. -/
theorem local_exec {ops : Array Oper} {o : Oper} {i lo hi : Nat} {ao : AOper} (hio : ops[i]? = some o) (hc : ckOper P n ops.toList o lo hi = some ao) {t : AFr} {m m' : Mem} {v : AV} (hl : Local P ao t m v m')
    {ρ : LMap} {w : World} {a : Act} {Q : Exit → Act → World → Prop} (hs : Sim m ρ w) (hf : Fresh m m' ρ) (hr : FR n ρ t a.tmps) {K : Act → World → Prop}
    (hK : ∀ v' w' ρ', VR ρ' v v' → Sim m' ρ' w' → Step m m' ρ ρ' w w' → K (a.put o.dst v') w') : wpOp P ops Q i K a w := by
  obtain ⟨h1, h2, h3, _, _, xs, h4, h5⟩ := ckOper_spec hc
  unfold wpOp
  simp only [hio]
  cases hl with
  | yes hw he hop =>
    rw [wanted_ck h3 hw hr]
    simp only [if_true]
    exact .inl (op_exec h4 hop hs hf (eval_ck hr _ _ _ h5 he) hK)
  | no hw =>
    rw [wanted_ck h3 hw hr]
    simp only [Bool.false_eq_true, if_false]
    exact hK undef w ρ (.mk_tup' (l := []) (cs := #[]) .nil) hs (.refl _ _ _)

theorem seq_exec {ops : Array Oper} {Q : Exit → Act → World → Prop} : ∀ (l : List Oper) (al : List AOper) (i : Nat), ops.toList.drop i = l → ckOpers P n ops.toList l = some al → ∀ (t t' : AFr) (m m' : Mem), Seq P al t m t' m' →
    ∀ (ρ : LMap) (w : World) (a : Act), Sim m ρ w → Fresh m m' ρ → FR n ρ t a.tmps → a.defers = [] →
    (∀ a2 w2 ρ', FR n ρ' t' a2.tmps → Sim m' ρ' w2 → Step m m' ρ ρ' w w2 → a2.defers = [] → Q .normal a2 w2) → wpOps P ops Q (List.range' i l.length) a w := by
  intro l
  induction l with
  | nil =>
    intro al i hd hc t t' m m' hseq ρ w a hs hf hr ha hQ
    cases hc
    cases hseq
    exact hQ a w ρ hr hs (.refl _ _ _) ha
  | cons o l ih =>
    intro al i hd hc t t' m m' hseq ρ w a hs hf hr ha hQ
    simp only [ckOpers, Option.bind_eq_some_iff, Option.map_eq_some_iff] at hc
    obtain ⟨ao, hao, al', hal, rfl⟩ := hc
    cases hseq with
    | cons hl hseq =>
      rename_i m1 v
      have hi : ops[i]? = some o := by
        have : (ops.toList.drop i)[0]? = some o := by rw [hd]; rfl
        simpa using this
      have hd' : ops.toList.drop (i + 1) = l := by
        have : (ops.toList.drop i).drop 1 = l := by rw [hd]; rfl
        simpa [List.drop_drop, Nat.add_comm] using this
      rw [List.length_cons, List.range'_succ, wpOps_cons]
      have hast := hl.astep
      have hast2 := hseq.astep
      refine local_exec hi hao hl hs (hf.left hast2.len) hr fun v' w' ρ' hv hs' hst => ?_
      obtain ⟨h1, h2, _⟩ := ckOper_spec hao
      refine ih al' (i + 1) hd' hal _ _ _ _ hseq ρ' w' _ hs' (hst.fresh hast2.len hf) ?_ ?_ fun a2 w2 ρ2 hr2 hs2 hst2 ha2 => hQ a2 w2 ρ2 hr2 hs2 (hst.trans hst2) ha2
      · have := (hr.mono (hst.sub (hf.left hast2.len))).put (a := a) (d := o.dst) h2 hv
        rw [h1]; exact this
      · cases hdd : o.dst <;> simp [Act.put, ha]

def Exit.plainA : Exit → Prop
  | .normal => True
  | .exit _ => True
  | .ret => True
  | _ => False

/-- A piece of code, in this frame and memory, ends so. -/
structure ExecS (P : Program) (n : Nat) (c : Code) (t : AFr) (m : Mem) (e : Exit) (t' : AFr) (m' : Mem) : Prop where
  plain : Exit.plainA e
  ab : AStep m m'
  to_ : ∀ (ρ : LMap) (w : World) (a : Act), Sim m ρ w → Fresh m m' ρ → FR n ρ t a.tmps → a.defers = [] →
    c.wp P (fun e2 a2 w2 => e2 = e ∧ a2.defers = [] ∧ ∃ ρ', FR n ρ' t' a2.tmps ∧ Sim m' ρ' w2 ∧ Step m m' ρ ρ' w w2) a w

theorem exec_ops {id : Nat} {ops : Array Oper} {al : List AOper} (hc : ckOpers P n ops.toList ops.toList = some al) {t t' : AFr} {m m' : Mem} (h : Seq P al t m t' m') : ExecS P n (.region id ops false) t m .normal t' m' := by
  refine ⟨trivial, h.astep, fun ρ w a hs hf hr ha => wp_region ?_⟩
  have := seq_exec (P := P) (n := n) (ops := ops) (Q := fun e2 a2 w2 => e2 = .normal ∧ a2.defers = [] ∧ ∃ ρ', FR n ρ' t' a2.tmps ∧ Sim m' ρ' w2 ∧ Step m m' ρ ρ' w w2) ops.toList al 0 rfl hc t t' m m' h ρ w a hs hf hr ha
    fun a2 w2 ρ' h1 h2 h3 h4 => ⟨rfl, h4, ρ', h1, h2, h3⟩
  rw [Array.length_toList, ← List.range_eq_range'] at this
  exact this

theorem ExecS.trans {c d : Code} {t t1 t' : AFr} {m m1 m' : Mem} {e : Exit} (h : ExecS P n c t m .normal t1 m1) (k : ExecS P n d t1 m1 e t' m') : ExecS P n (.seq c d) t m e t' m' := by
  refine ⟨k.plain, h.ab.trans k.ab, fun ρ w a hs hf hr ha => wp_seq ?_⟩
  refine wp_mono (h.to_ ρ w a hs (hf.left k.ab.len) hr ha) fun e2 a2 w2 hq => ?_
  obtain ⟨rfl, hd, ρ1, hr1, hs1, hst⟩ := hq
  refine wp_mono (k.to_ ρ1 w2 a2 hs1 (hst.fresh k.ab.len hf) hr1 hd) fun e3 a3 w3 hq => ?_
  obtain ⟨rfl, hd, ρ2, hr2, hs2, hst2⟩ := hq
  exact ⟨rfl, hd, ρ2, hr2, hs2, hst.trans hst2⟩

theorem ExecS.left {c d : Code} {t t' : AFr} {m m' : Mem} {e : Exit} (h : ExecS P n c t m e t' m') (he : e ≠ .normal) : ExecS P n (.seq c d) t m e t' m' := by
  refine ⟨h.plain, h.ab, fun ρ w a hs hf hr ha => wp_seq ?_⟩
  refine wp_mono (h.to_ ρ w a hs hf hr ha) fun e2 a2 w2 hq => ?_
  obtain ⟨rfl, hq⟩ := hq
  cases e2 <;> first | exact absurd rfl he | exact ⟨rfl, hq⟩

theorem exitTo_length {id : Nat} : ∀ {k k' : List Item}, exitTo id k = some k' → k'.length < k.length := by
  intro k
  induction k with
  | nil => intro k' h; simp [exitTo] at h
  | cons x k ih =>
    intro k' h
    cases x <;> simp only [exitTo] at h
    case inBlock i =>
      split at h
      · cases h; simp
      · have := ih h; simp; omega
    all_goals (have := ih h; simp; omega)

/-- Steps from a machine that is not yet there: the first one can be taken off. -/
theorem Steps.tail {m m1 m2 : Machine} (h : Steps P m m2) (h1 : step P m = .next m1) (hne : m ≠ m2) : Steps P m1 m2 := by
  obtain ⟨k, hk⟩ := h
  cases k with
  | zero => simp only [runN, Stepped.next.injEq] at hk; exact absurd hk hne
  | succ k =>
    simp only [runN, h1] at hk
    exact ⟨k, hk⟩

theorem lone_todo {fr fr' : Frame} {cs cs' : List Frame} {w w' : World} (h : lone fr cs w = lone fr' cs' w') : fr = fr' := by
  simp only [lone, Machine.mk.injEq] at h
  simpa using (congrArg (fun g : Array Goroutine => g.map (·.frame)) h.2.1)

/-- A loop, one round unrolled. -/
theorem wp_unroll {c : Code} {Q : Exit → Act → World → Prop} {a : Act} {w : World} (hQ : ∀ e a w, Q e a w → Exit.plainA e) (h : c.wp P (Exit.then (fun a' w' => (Code.loop c).wp P Q a' w') Q) a w) : (Code.loop c).wp P Q a w := by
  intro b k cs
  obtain ⟨e, a1, w1, hq, harr⟩ := h b (.inLoop c :: k) cs
  have pass : e ≠ .normal → Q e a1 w1 → ∃ e a' w', Q e a' w' ∧ Arrives P (lone (b.at a (.code (.loop c) :: k)) cs w) b k cs e a' w' := fun hne hq =>
    ⟨e, a1, w1, hq, .of_steps (.one step_loop) (.pass (x := .inLoop c) rfl (fun _ _ => .inl hne) harr)⟩
  cases e with
  | normal =>
    obtain ⟨e2, a2, w2, hq2, harr2⟩ := hq b k cs
    refine ⟨e2, a2, w2, hq2, .of_steps (.one step_loop) (.of_steps harr (.of_steps (.one step_inLoop) ?_))⟩
    have hp := hQ _ _ _ hq2
    cases e2 with
    | normal =>
      refine Steps.tail harr2 step_loop fun e => ?_
      have := congrArg (fun f : Frame => f.todo.length) (lone_todo e)
      simp [Frame.at] at this
    | exit id =>
      intro k' hk
      refine Steps.tail (harr2 k' hk) step_loop fun e => ?_
      have := congrArg (fun f : Frame => f.todo.length) (lone_todo e)
      have h2 := exitTo_length hk
      simp [Frame.at] at this
      omega
    | ret =>
      obtain ⟨todo, ht⟩ := harr2
      refine ⟨todo, Steps.tail ht step_loop fun e => ?_⟩
      have := congrArg (fun f : Frame => match f.mode with | .run => true | _ => false) (lone_todo e)
      simp [Frame.at] at this
    | goto l => exact hp.elim
    | panic ch => exact hp.elim
    | outgrown => exact hp.elim
  | exit id => exact pass (by simp) hq
  | goto l => exact pass (by simp) hq
  | ret => exact pass (by simp) hq
  | panic ch => exact pass (by simp) hq
  | outgrown => exact pass (by simp) hq

theorem ExecS.round {c : Code} {t t1 t' : AFr} {m m1 m' : Mem} {e : Exit} (h : ExecS P n c t m .normal t1 m1) (k : ExecS P n (.loop c) t1 m1 e t' m') : ExecS P n (.loop c) t m e t' m' := by
  refine ⟨k.plain, h.ab.trans k.ab, fun ρ w a hs hf hr ha => wp_unroll (fun e2 a2 w2 hq => hq.1 ▸ k.plain) ?_⟩
  refine wp_mono (h.to_ ρ w a hs (hf.left k.ab.len) hr ha) fun e2 a2 w2 hq => ?_
  obtain ⟨rfl, hd, ρ1, hr1, hs1, hst⟩ := hq
  refine wp_mono (k.to_ ρ1 w2 a2 hs1 (hst.fresh k.ab.len hf) hr1 hd) fun e3 a3 w3 hq => ?_
  obtain ⟨rfl, hd, ρ2, hr2, hs2, hst2⟩ := hq
  exact ⟨rfl, hd, ρ2, hr2, hs2, hst.trans hst2⟩

theorem ExecS.out {c : Code} {t t' : AFr} {m m' : Mem} {e : Exit} (h : ExecS P n c t m e t' m') (he : e ≠ .normal) : ExecS P n (.loop c) t m e t' m' := by
  refine ⟨h.plain, h.ab, fun ρ w a hs hf hr ha => wp_unroll (fun e2 a2 w2 hq => hq.1 ▸ h.plain) ?_⟩
  refine wp_mono (h.to_ ρ w a hs hf hr ha) fun e2 a2 w2 hq => ?_
  obtain ⟨rfl, hq⟩ := hq
  cases e2 <;> first | exact absurd rfl he | exact ⟨rfl, hq⟩

def Exit.leaves (id : Nat) : Exit → Exit
  | .exit i => if i = id then .normal else .exit i
  | e => e

theorem ExecS.block {c : Code} {t t' : AFr} {m m' : Mem} {e : Exit} (id : Nat) (h : ExecS P n c t m e t' m') : ExecS P n (.block id c) t m (Exit.leaves id e) t' m' := by
  refine ⟨?_, h.ab, fun ρ w a hs hf hr ha => wp_block ?_⟩
  · have := h.plain
    cases e <;> simp only [Exit.leaves] <;> try exact this
    split <;> trivial
  · refine wp_mono (h.to_ ρ w a hs hf hr ha) fun e2 a2 w2 hq => ?_
    obtain ⟨rfl, hq⟩ := hq
    cases e2 <;> simp only [Exit.inBlock, Exit.leaves]
    case exit i => split <;> first | exact ⟨rfl, hq⟩ | exact ⟨trivial, hq⟩
    all_goals first | exact ⟨rfl, hq⟩ | exact ⟨trivial, hq⟩
end
end Go.Adm
