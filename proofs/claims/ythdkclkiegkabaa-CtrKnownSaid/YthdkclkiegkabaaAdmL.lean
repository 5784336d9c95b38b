/- Regions that draw their order: the text's order serves every order, if reads are the same wherever they may come. -/
import Derived.Test.YthdkclkiegkabaaAdmK
namespace Go.Adm

def AK.loud (k : AK) : Bool :=
  match k.cls with
  | .write => true
  | .call => true
  | _ => false

def AOper.names (o : AOper) : List Nat :=
  o.dst.toList ++ ((o.xs.filterMap fun | .t n => some n | .c _ => none) ++ (match o.g with | some (j, _) => [j] | none => []))

def edgeMask (o : Oper) (acc : List Nat) : Nat := o.after.toList.foldl (fun s e => if Region.binds .any e then s ||| 2 ^ e.on ||| acc.getD e.on 0 else s) 0
def befs : List Oper → List Nat → List Nat
  | [], acc => acc
  | o :: r, acc => befs r (acc ++ [edgeMask o acc])

def clash (p o : AOper) : Bool :=
  (match p.dst with | some x => o.names.contains x | none => false) || (match o.dst with | some x => p.names.contains x | none => false) || (p.k.loud && o.k.loud)
/-- Each earlier operation that clashes with this one comes before it in every order. -/
def okPre (o : AOper) (b : Nat) : List AOper → Nat → Bool
  | [], _ => true
  | p :: r, i => (b.testBit i || !clash p o) && okPre o b r (i + 1)
def okAll : List AOper → List Nat → List AOper → Bool
  | [], _, _ => true
  | o :: r, b :: bs, pre => okPre o b pre 0 && okAll r bs (pre ++ [o])
  | _ :: _, [], _ => false
def edgesOk : List Oper → Nat → Bool
  | [], _ => true
  | o :: r, i => o.after.toList.all (fun e => !Region.binds .any e || decide (e.on < i)) && edgesOk r (i + 1)

/-- The loud operations: place and what comes before each. -/
def loudsOf : List AOper → List Nat → Nat → List (Nat × Nat)
  | o :: r, b :: bs, i => if o.k.loud then (i, b) :: loudsOf r bs (i + 1) else loudsOf r bs (i + 1)
  | _, _, _ => []
def marked (ls : List (Nat × Nat)) : List AOper → List Nat → Nat → List AOper
  | o :: r, b :: bs, i => { o with lo := (ls.filter fun l => b.testBit l.1).length, hi := (ls.filter fun l => !l.2.testBit i).length } :: marked ls r bs (i + 1)
  | _, _, _ => []

def ckDrawn (P : Program) (n : Nat) (ops : Array Oper) : Option (List AOper) :=
  (ckOpers P n ops.toList ops.toList).bind fun al =>
    let bs := befs ops.toList []
    if edgesOk ops.toList 0 && okAll al bs [] then some (marked (loudsOf al bs 0) al bs 0) else none

/-! ## The text's order -/

def loudIn (l : List AOper) (i : Nat) : Nat := ((l.take i).filter (·.k.loud)).length

def pendOk (q : Nat) : List (Nat × (Mem → Prop)) → Mem → Prop
  | [], _ => True
  | (h, c) :: r, m => (q ≤ h → c m) ∧ pendOk q r m
def pastOk (c : Mem → Prop) : Nat → List Mem → Prop
  | 0, _ => True
  | _ + 1, [] => True
  | k + 1, m :: r => c m ∧ pastOk c k r

/-- One operation of a region that draws its order, and the check at what was and what is to come. -/
inductive DSeq (P : Program) : List AOper → AFr → Mem → List Mem → List (Nat × (Mem → Prop)) → AFr → Mem → Prop where
  | nil {t : AFr} {m : Mem} {past : List Mem} {pend : List (Nat × (Mem → Prop))} : DSeq P [] t m past pend t m
  | no {o : AOper} {r : List AOper} {t t' : AFr} {m m' : Mem} {past : List Mem} {pend : List (Nat × (Mem → Prop))} : wantedA o.g t = some false → (o.k.loud = true → pendOk (past.length + 1) pend m) →
      DSeq P r (t.put o.dst undefA) m (if o.k.loud then m :: past else past) pend t' m' → DSeq P (o :: r) t m past pend t' m'
  | pure {o : AOper} {r : List AOper} {t t' : AFr} {m m' : Mem} {past : List Mem} {pend : List (Nat × (Mem → Prop))} {vs : List AV} {v : AV} : wantedA o.g t = some true → evalAll t o.xs = some vs →
      o.k.cls = .pure → aP o.k vs = some v → DSeq P r (t.put o.dst v) m past pend t' m' → DSeq P (o :: r) t m past pend t' m'
  | read {o : AOper} {r : List AOper} {t t' : AFr} {m m' : Mem} {past : List Mem} {pend : List (Nat × (Mem → Prop))} {vs : List AV} {v : AV} : wantedA o.g t = some true → evalAll t o.xs = some vs →
      o.k.cls = .read → aR o.k vs m = some v → pastOk (fun m1 => aR o.k vs m1 = some v) (past.length - o.lo) past →
      DSeq P r (t.put o.dst v) m past ((o.hi, fun m1 => aR o.k vs m1 = some v) :: pend) t' m' → DSeq P (o :: r) t m past pend t' m'
  | make {o : AOper} {r : List AOper} {t t' : AFr} {m m' : Mem} {past : List Mem} {pend : List (Nat × (Mem → Prop))} {vs : List AV} {b : Blk} {mk : Nat → AV} : wantedA o.g t = some true → evalAll t o.xs = some vs →
      o.k.cls = .make → aA o.k vs = some (b, mk) →
      DSeq P r (t.put o.dst (mk m.length)) (m ++ [b]) past ((o.hi, fun m1 => m1[m.length]? = some b) :: pend) t' m' → DSeq P (o :: r) t m past pend t' m'
  | loud {o : AOper} {r : List AOper} {t t' : AFr} {m m1 m' : Mem} {past : List Mem} {pend : List (Nat × (Mem → Prop))} {vs : List AV} {v : AV} : wantedA o.g t = some true → evalAll t o.xs = some vs →
      o.k.loud = true → OpTo P o.k vs m v m1 → pendOk (past.length + 1) pend m1 →
      DSeq P r (t.put o.dst v) m1 (m :: past) pend t' m' → DSeq P (o :: r) t m past pend t' m'

/-- The run of a region in the text's order, state by state. -/
structure Run (P : Program) (l : List AOper) (q0 : Nat) (past : List Mem) (pend : List (Nat × (Mem → Prop))) (T : Nat → AFr) (M : Nat → Mem) (V : Nat → AV) : Prop where
  step : ∀ (i : Nat) (o : AOper), l[i]? = some o → Local P o (T i) (M i) (V i) (M (i + 1)) ∧ T (i + 1) = (T i).put o.dst (V i)
  readPast : ∀ (i : Nat) (o : AOper) (vs : List AV), l[i]? = some o → o.k.cls = .read → wantedA o.g (T i) = some true → evalAll (T i) o.xs = some vs → ∀ (j : Nat) (m0 : Mem), past[j]? = some m0 → j < past.length - o.lo → aR o.k vs m0 = some (V i)
  readBack : ∀ (i : Nat) (o : AOper) (vs : List AV), l[i]? = some o → o.k.cls = .read → wantedA o.g (T i) = some true → evalAll (T i) o.xs = some vs → ∀ (p : Nat) (x : AOper), l[p]? = some x → x.k.loud = true → p < i → o.lo ≤ q0 + loudIn l p → aR o.k vs (M p) = some (V i)
  readOn : ∀ (i : Nat) (o : AOper) (vs : List AV), l[i]? = some o → o.k.cls = .read → wantedA o.g (T i) = some true → evalAll (T i) o.xs = some vs → ∀ (p : Nat) (x : AOper), l[p]? = some x → x.k.loud = true → i < p → q0 + loudIn l p + 1 ≤ o.hi → aR o.k vs (M (p + 1)) = some (V i)
  makeOn : ∀ (i : Nat) (o : AOper) (b : Blk), l[i]? = some o → o.k.cls = .make → wantedA o.g (T i) = some true → M (i + 1) = M i ++ [b] → ∀ (p : Nat) (x : AOper), l[p]? = some x → x.k.loud = true → i < p → q0 + loudIn l p + 1 ≤ o.hi → (M (p + 1))[(M i).length]? = some b
  pends : ∀ (h : Nat) (c : Mem → Prop), (h, c) ∈ pend → ∀ (p : Nat) (x : AOper), l[p]? = some x → x.k.loud = true → q0 + loudIn l p + 1 ≤ h → c (M (p + 1))

def consF {α : Type} (x : α) (f : Nat → α) : Nat → α
  | 0 => x
  | i + 1 => f i

theorem loudIn_zero (l : List AOper) : loudIn l 0 = 0 := by simp [loudIn]
theorem loudIn_cons (o : AOper) (l : List AOper) (p : Nat) : loudIn (o :: l) (p + 1) = (if o.k.loud then 1 else 0) + loudIn l p := by
  simp only [loudIn, List.take_succ_cons, List.filter_cons]
  split <;> simp [Nat.add_comm]

theorem pastOk_get {c : Mem → Prop} : ∀ (k : Nat) (past : List Mem), pastOk c k past → ∀ (j : Nat) (m0 : Mem), past[j]? = some m0 → j < k → c m0 := by
  intro k
  induction k with
  | zero => intro _ _ j _ _ h; omega
  | succ k ih =>
    intro past h j m0 hj hk
    cases past with
    | nil => simp at hj
    | cons m r =>
      cases j with
      | zero => simp at hj; subst hj; exact h.1
      | succ j => exact ih r h.2 j m0 (by simpa using hj) (by omega)

theorem pendOk_mem {q : Nat} {m : Mem} : ∀ (pend : List (Nat × (Mem → Prop))), pendOk q pend m → ∀ (h : Nat) (c : Mem → Prop), (h, c) ∈ pend → q ≤ h → c m := by
  intro pend
  induction pend with
  | nil => intro _ h c hm; cases hm
  | cons x r ih =>
    obtain ⟨h0, c0⟩ := x
    intro hp h c hm hq
    cases hm with
    | head => exact hp.1 hq
    | tail _ hm => exact ih hp.2 h c hm hq

theorem AK.loud_cls {k : AK} (h : k.loud = true) : k.cls ≠ .read ∧ k.cls ≠ .make ∧ k.cls ≠ .pure := by
  unfold AK.loud at h
  cases hk : k.cls <;> simp_all

section
variable {P : Program}

/-- A run, with one operation ahead. -/
theorem Run.cons {o : AOper} {r : List AOper} {q0 q1 : Nat} {past past' : List Mem} {pend pend' : List (Nat × (Mem → Prop))} {T : Nat → AFr} {M : Nat → Mem} {V : Nat → AV} {t : AFr} {m : Mem} {v : AV}
    (h : Run P r q1 past' pend' T M V) (hq1 : q1 = q0 + (if o.k.loud then 1 else 0)) (hq0 : q0 = past.length) (hpl : past' = if o.k.loud then m :: past else past) (hpd : ∀ x ∈ pend, x ∈ pend')
    (hl : Local P o t m v (M 0)) (hT : T 0 = t.put o.dst v)
    (hr : ∀ vs, o.k.cls = .read → wantedA o.g t = some true → evalAll t o.xs = some vs → (∀ (j : Nat) (m0 : Mem), past[j]? = some m0 → j < past.length - o.lo → aR o.k vs m0 = some v) ∧ (o.hi, fun m1 => aR o.k vs m1 = some v) ∈ pend')
    (hm : ∀ b, o.k.cls = .make → wantedA o.g t = some true → M 0 = m ++ [b] → (o.hi, fun m1 => m1[m.length]? = some b) ∈ pend')
    (hp : o.k.loud = true → pendOk (past.length + 1) pend (M 0)) :
    Run P (o :: r) q0 past pend (consF t T) (consF m M) (consF v V) := by
  have hlen : ∀ p, q1 + loudIn r p = q0 + loudIn (o :: r) (p + 1) := fun p => by rw [loudIn_cons, hq1]; omega
  refine ⟨?_, ?_, ?_, ?_, ?_, ?_⟩
  · intro i o' hi
    cases i with
    | zero => simp at hi; subst hi; exact ⟨hl, hT⟩
    | succ i => exact h.step i o' (by simpa using hi)
  · intro i o' vs hi hc hw he j m0 hj hlt
    cases i with
    | zero => simp at hi; subst hi; exact (hr vs hc hw he).1 j m0 hj hlt
    | succ i =>
      subst hpl
      cases hld : o.k.loud with
      | true => exact h.readPast i o' vs (by simpa using hi) hc hw he (j + 1) m0 (by simpa [hld] using hj) (by simp [hld]; omega)
      | false => exact h.readPast i o' vs (by simpa using hi) hc hw he j m0 (by simpa [hld] using hj) (by simpa [hld] using hlt)
  · intro i o' vs hi hc hw he p x hp hx hlt hle
    cases i with
    | zero => omega
    | succ i =>
      cases p with
      | zero =>
        simp at hp; subst hp
        have := h.readPast i o' vs (by simpa using hi) hc hw he 0 m (by rw [hpl, hx]; rfl) (by
          rw [loudIn_zero] at hle
          rw [hpl, hx]
          simp only [if_true, List.length_cons]
          omega)
        exact this
      | succ p => exact h.readBack i o' vs (by simpa using hi) hc hw he p x (by simpa using hp) hx (by omega) (by rw [hlen]; exact hle)
  · intro i o' vs hi hc hw he p x hp hx hlt hle
    cases p with
    | zero => omega
    | succ p =>
      cases i with
      | zero =>
        simp at hi; subst hi
        exact h.pends _ _ (hr vs hc hw he).2 p x (by simpa using hp) hx (by rw [hlen]; exact hle)
      | succ i => exact h.readOn i o' vs (by simpa using hi) hc hw he p x (by simpa using hp) hx (by omega) (by rw [hlen]; exact hle)
  · intro i o' b hi hc hw he p x hp hx hlt hle
    cases p with
    | zero => omega
    | succ p =>
      cases i with
      | zero =>
        simp at hi; subst hi
        exact h.pends _ _ (hm b hc hw he) p x (by simpa using hp) hx (by rw [hlen]; exact hle)
      | succ i => exact h.makeOn i o' b (by simpa using hi) hc hw he p x (by simpa using hp) hx (by omega) (by rw [hlen]; exact hle)
  · intro h' c hmem p x hpx hx hle
    cases p with
    | zero =>
      simp at hpx; subst hpx
      rw [loudIn_zero] at hle
      exact pendOk_mem pend (hp hx) h' c hmem (by omega)
    | succ p => exact h.pends _ _ (hpd _ hmem) p x (by simpa using hpx) hx (by rw [hlen]; exact hle)

theorem dseq_run {l : List AOper} {t t' : AFr} {m m' : Mem} {past : List Mem} {pend : List (Nat × (Mem → Prop))} (h : DSeq P l t m past pend t' m') :
    ∃ T M V, T 0 = t ∧ M 0 = m ∧ T l.length = t' ∧ M l.length = m' ∧ Run P l past.length past pend T M V := by
  induction h with
  | nil =>
    rename_i t m past pend
    exact ⟨fun _ => t, fun _ => m, fun _ => undefA, rfl, rfl, rfl, rfl, ⟨fun i o h => by simp at h, fun i o vs h => by simp at h, fun i o vs h => by simp at h, fun i o vs h => by simp at h, fun i o b h => by simp at h, fun _ _ _ p x h => by simp at h⟩⟩
  | no hw hp _ ih =>
    rename_i o r t t' m m' past pend _
    obtain ⟨T, M, V, h1, h2, h3, h4, h5⟩ := ih
    refine ⟨consF t T, consF m M, consF undefA V, rfl, rfl, h3, h4, h5.cons (by split <;> simp) rfl rfl (fun _ h => h) (by rw [h2]; exact .no hw) h1 (fun vs _ h => by rw [hw] at h; cases h) (fun b _ h => by rw [hw] at h; cases h) (fun hl => by rw [h2]; exact hp hl)⟩
  | pure hw he hc ha _ ih =>
    rename_i o r t t' m m' past pend vs v _
    obtain ⟨T, M, V, h1, h2, h3, h4, h5⟩ := ih
    have hnl : o.k.loud = false := by simp [AK.loud, hc]
    refine ⟨consF t T, consF m M, consF v V, rfl, rfl, h3, h4, h5.cons (by simp [hnl]) rfl (by simp [hnl]) (fun _ h => h) (by rw [h2]; exact .yes hw he (.pure hc ha)) h1 (fun vs h => by rw [hc] at h; cases h) (fun b h => by rw [hc] at h; cases h) (fun hl => by rw [hnl] at hl; cases hl)⟩
  | read hw he hc ha hp _ ih =>
    rename_i o r t t' m m' past pend vs v _
    obtain ⟨T, M, V, h1, h2, h3, h4, h5⟩ := ih
    have hnl : o.k.loud = false := by simp [AK.loud, hc]
    refine ⟨consF t T, consF m M, consF v V, rfl, rfl, h3, h4, h5.cons (by simp [hnl]) rfl (by simp [hnl]) (fun _ h => List.mem_cons_of_mem _ h) (by rw [h2]; exact .yes hw he (.read hc ha)) h1 (fun vs' _ _ he' => ?_) (fun b h => by rw [hc] at h; cases h) (fun hl => by rw [hnl] at hl; cases hl)⟩
    rw [he] at he'; cases he'
    exact ⟨fun j m0 hj hlt => pastOk_get _ _ hp j m0 hj hlt, List.mem_cons_self⟩
  | make hw he hc ha _ ih =>
    rename_i o r t t' m m' past pend vs b mk _
    obtain ⟨T, M, V, h1, h2, h3, h4, h5⟩ := ih
    have hnl : o.k.loud = false := by simp [AK.loud, hc]
    refine ⟨consF t T, consF m M, consF _ V, rfl, rfl, h3, h4, h5.cons (by simp [hnl]) rfl (by simp [hnl]) (fun _ h => List.mem_cons_of_mem _ h) (by rw [h2]; exact .yes hw he (.make hc ha)) h1 (fun vs h => by rw [hc] at h; cases h) (fun b' _ _ e => ?_) (fun hl => by rw [hnl] at hl; cases hl)⟩
    rw [h2] at e
    have : b = b' := by simpa using e
    subst this
    exact List.mem_cons_self
  | loud hw he hl hop hp _ ih =>
    rename_i o r t t' m m1 m' past pend vs v _
    obtain ⟨T, M, V, h1, h2, h3, h4, h5⟩ := ih
    obtain ⟨c1, c2, c3⟩ := AK.loud_cls hl
    refine ⟨consF t T, consF m M, consF v V, rfl, rfl, h3, h4, h5.cons (by simp [hl]) rfl (by simp [hl]) (fun _ h => h) (by rw [h2]; exact .yes hw he hop) h1 (fun vs h => absurd h c1) (fun b h => absurd h c2) (fun _ => by rw [h2]; exact hp)⟩
end
end Go.Adm
