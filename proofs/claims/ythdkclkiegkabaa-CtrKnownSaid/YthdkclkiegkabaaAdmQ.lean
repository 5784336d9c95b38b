/- The predicate over abstract code, and what it gives: the call of a function. -/
import Derived.Test.YthdkclkiegkabaaAdmP
namespace Go.Adm

/-- The call returns something of which R holds. -/
def Ans (P : Program) (f : FuncId) (args : List AV) (m : Mem) (R : AV → Mem → Prop) : Prop := ∃ r m', Eval P f args m r m' ∧ R r m'
theorem Ans.mono {P : Program} {f : FuncId} {args : List AV} {m : Mem} {R R' : AV → Mem → Prop} (h : Ans P f args m R) (hr : ∀ r m', R r m' → R' r m') : Ans P f args m R' :=
  let ⟨r, m', h1, h2⟩ := h; ⟨r, m', h1, hr r m' h2⟩

def guardW (w : Option Bool) (yes no : Prop) : Prop :=
  match w with
  | some b => (b = true → yes) ∧ (b = false → no)
  | none => False
def someW {α : Type} (x : Option α) (K : α → Prop) : Prop :=
  match x with
  | some a => K a
  | none => False
def callW (P : Program) : AK → List AV → Mem → (AV → Mem → Prop) → Prop
  | .call f, vs, m, K => Ans P f vs m K
  | .callv, .fn (.func f) fs cs :: vs, m, K => Ans P f (fs ++ vs ++ cs) m K
  | _, _, _, _ => False
def stepW (P : Program) (k : AK) (vs : List AV) (m : Mem) (K : AV → Mem → Prop) : Prop :=
  match k.cls with
  | .pure => someW (aP k vs) fun v => K v m
  | .read => someW (aR k vs m) fun v => K v m
  | .make => someW (aA k vs) fun p => K (p.2 m.length) (m ++ [p.1])
  | .write => someW (aW k vs m) fun p => K p.1 p.2
  | .call => callW P k vs m K

def cutCons (k : Nat) : Option AV → AFr → AFr
  | some v, r => (k, v) :: r
  | none, r => r
/-- A frame, cut to some temporaries, in their order. -/
def AFr.cut : List Nat → AFr → AFr
  | [], _ => []
  | k :: ks, t => cutCons k (t.get k) (AFr.cut ks t)
theorem AFr.get_cut (ks : List Nat) (t : AFr) (x : Nat) (v : AV) (h : (t.cut ks).get x = some v) : t.get x = some v := by
  induction ks with
  | nil => cases h
  | cons k ks ih =>
    simp only [AFr.cut] at h
    cases hk : t.get k with
    | none => rw [hk] at h; exact ih h
    | some u =>
      rw [hk] at h
      simp only [cutCons, AFr.get] at h
      split at h
      · rename_i e; subst e; cases h; exact hk
      · exact ih h

def wpSeq (P : Program) : List AOper → AFr → Mem → (AFr → Mem → Prop) → Prop
  | [], t, m, K => K t m
  | o :: r, t, m, K => guardW (wantedA o.g t) (someW (evalAll t o.xs) fun vs => stepW P o.k vs m fun v m' => wpSeq P r (t.put o.dst v) m' K) (wpSeq P r (t.put o.dst undefA) m K)

def drawW (P : Program) (o : AOper) (vs : List AV) (m : Mem) (past : List Mem) (pend : List (Nat × (Mem → Prop))) (K : AV → Mem → List Mem → List (Nat × (Mem → Prop)) → Prop) : Prop :=
  match o.k.cls with
  | .pure => someW (aP o.k vs) fun v => K v m past pend
  | .read => someW (aR o.k vs m) fun v => pastOk (fun m1 => aR o.k vs m1 = some v) (past.length - o.lo) past ∧ K v m past ((o.hi, fun m1 => aR o.k vs m1 = some v) :: pend)
  | .make => someW (aA o.k vs) fun p => K (p.2 m.length) (m ++ [p.1]) past ((o.hi, fun m1 => m1[m.length]? = some p.1) :: pend)
  | .write => someW (aW o.k vs m) fun p => pendOk (past.length + 1) pend p.2 ∧ K p.1 p.2 (m :: past) pend
  | .call => callW P o.k vs m fun v m' => pendOk (past.length + 1) pend m' ∧ K v m' (m :: past) pend
def wpDraw (P : Program) : List AOper → AFr → Mem → List Mem → List (Nat × (Mem → Prop)) → (AFr → Mem → Prop) → Prop
  | [], t, m, _, _, K => K t m
  | o :: r, t, m, past, pend, K => guardW (wantedA o.g t)
      (someW (evalAll t o.xs) fun vs => drawW P o vs m past pend fun v m' past' pend' => wpDraw P r (t.put o.dst v) m' past' pend' K)
      ((o.k.loud = true → pendOk (past.length + 1) pend m) ∧ wpDraw P r (t.put o.dst undefA) m (if o.k.loud then m :: past else past) pend K)

def loopQ (X : AFr → Mem → Prop) (Q : Exit → AFr → Mem → Prop) : Exit → AFr → Mem → Prop
  | .normal, t, m => X t m
  | e, t, m => Q e t m
def LoopW (ks : List Nat) (body : AFr → Mem → (Exit → AFr → Mem → Prop) → Prop) (t : AFr) (m : Mem) (Q : Exit → AFr → Mem → Prop) : Prop :=
  ∀ X : AFr → Mem → Prop, (∀ t m, body (t.cut ks) m (loopQ X Q) → X t m) → X t m
def blockQ (id : Nat) (Q : Exit → AFr → Mem → Prop) : Exit → AFr → Mem → Prop
  | .exit i, t, m => if i = id then Q .normal t m else Q (.exit i) t m
  | e, t, m => Q e t m
def condW (v : Option AV) (a b : Prop) : Prop :=
  match v with
  | some (.bool x) => (x = true → a) ∧ (x = false → b)
  | _ => False

/-- Under 'wpA P c t m Q': the code c, in frame t and memory m, ends so that Q holds. Behind each region, and at each loop's head, only what lives on is kept. -/
def wpA (P : Program) : ACode → AFr → Mem → (Exit → AFr → Mem → Prop) → Prop
  | .skip, t, m, Q => Q .normal t m
  | .ops ks l, t, m, Q => wpSeq P l t m fun t m => Q .normal (t.cut ks) m
  | .drawn ks l, t, m, Q => wpDraw P l t m [] [] fun t m => Q .normal (t.cut ks) m
  | .seq a b, t, m, Q => wpA P a t m (loopQ (fun t m => wpA P b t m Q) Q)
  | .cond c a b, t, m, Q => condW (c.eval t) (wpA P a t m Q) (wpA P b t m Q)
  | .block id a, t, m, Q => wpA P a t m (blockQ id Q)
  | .loop ks a, t, m, Q => LoopW ks (wpA P a) t m Q
  | .exit id, t, m, Q => Q (.exit id) t m
  | .ret, t, m, Q => Q .ret t m

section
variable {P : Program} {n : Nat}

theorem guardW_some {w : Option Bool} {yes no : Prop} (h : guardW w yes no) : (w = some true ∧ yes) ∨ (w = some false ∧ no) := by
  unfold guardW at h
  cases w with
  | none => exact h.elim
  | some b => cases b
              · exact .inr ⟨rfl, h.2 rfl⟩
              · exact .inl ⟨rfl, h.1 rfl⟩
theorem guardW_mono {w : Option Bool} {yes no yes' no' : Prop} (h : guardW w yes no) (h1 : yes → yes') (h2 : no → no') : guardW w yes' no' := by
  unfold guardW at *
  cases w with
  | none => exact h
  | some b => exact ⟨fun e => h1 (h.1 e), fun e => h2 (h.2 e)⟩
theorem someW_some {α : Type} {x : Option α} {K : α → Prop} (h : someW x K) : ∃ a, x = some a ∧ K a := by
  unfold someW at h
  cases x with
  | none => exact h.elim
  | some a => exact ⟨a, rfl, h⟩
theorem someW_mono {α : Type} {x : Option α} {K K' : α → Prop} (h : someW x K) (hk : ∀ a, K a → K' a) : someW x K' := by
  unfold someW at *
  cases x with
  | none => exact h
  | some a => exact hk a h
theorem callW_mono {k : AK} {vs : List AV} {m : Mem} {K K' : AV → Mem → Prop} (h : callW P k vs m K) (hk : ∀ v m, K v m → K' v m) : callW P k vs m K' := by
  unfold callW at *
  split at h
  · exact h.mono hk
  · exact h.mono hk
  · exact h.elim
theorem stepW_mono {k : AK} {vs : List AV} {m : Mem} {K K' : AV → Mem → Prop} (h : stepW P k vs m K) (hk : ∀ v m, K v m → K' v m) : stepW P k vs m K' := by
  unfold stepW at *
  cases hc : k.cls <;> simp only [hc] at h ⊢ <;> first | exact someW_mono h fun _ => hk _ _ | exact callW_mono h hk

theorem callW_some {k : AK} (hc : k.cls = .call) {vs : List AV} {m : Mem} {K : AV → Mem → Prop} (h : callW P k vs m K) : ∃ v m', OpTo P k vs m v m' ∧ K v m' := by
  unfold callW at h
  split at h
  · obtain ⟨r, m', h1, h2⟩ := h; exact ⟨r, m', .call h1, h2⟩
  · obtain ⟨r, m', h1, h2⟩ := h; exact ⟨r, m', .callv h1, h2⟩
  · exact h.elim
theorem stepW_some {k : AK} {vs : List AV} {m : Mem} {K : AV → Mem → Prop} (h : stepW P k vs m K) : ∃ v m', OpTo P k vs m v m' ∧ K v m' := by
  unfold stepW at h
  cases hc : k.cls <;> simp only [hc] at h
  · obtain ⟨v, h1, h2⟩ := someW_some h; exact ⟨v, m, .pure hc h1, h2⟩
  · obtain ⟨v, h1, h2⟩ := someW_some h; exact ⟨v, m, .read hc h1, h2⟩
  · obtain ⟨⟨b, mk⟩, h1, h2⟩ := someW_some h; exact ⟨_, _, .make hc h1, h2⟩
  · obtain ⟨⟨v, m'⟩, h1, h2⟩ := someW_some h; exact ⟨v, m', .write hc h1, h2⟩
  · exact callW_some hc h

theorem wpSeq_mono : ∀ (l : List AOper) (t : AFr) (m : Mem) (K K' : AFr → Mem → Prop), wpSeq P l t m K → (∀ t m, K t m → K' t m) → wpSeq P l t m K' := by
  intro l
  induction l with
  | nil => intro t m K K' h hk; exact hk _ _ h
  | cons o r ih =>
    intro t m K K' h hk
    exact guardW_mono h (fun h => someW_mono h fun vs h => stepW_mono h fun v m' h => ih _ _ _ _ h hk) (fun h => ih _ _ _ _ h hk)
theorem wpSeq_some : ∀ (l : List AOper) (t : AFr) (m : Mem) (K : AFr → Mem → Prop), wpSeq P l t m K → ∃ t' m', Seq P l t m t' m' ∧ K t' m' := by
  intro l
  induction l with
  | nil => intro t m K h; exact ⟨t, m, .nil, h⟩
  | cons o r ih =>
    intro t m K h
    rcases guardW_some h with ⟨hw, h⟩ | ⟨hw, h⟩
    · obtain ⟨vs, he, h⟩ := someW_some h
      obtain ⟨v, m1, hop, h⟩ := stepW_some h
      obtain ⟨t', m', hs, hk⟩ := ih _ _ _ h
      exact ⟨t', m', .cons (.yes hw he hop) hs, hk⟩
    · obtain ⟨t', m', hs, hk⟩ := ih _ _ _ h
      exact ⟨t', m', .cons (.no hw) hs, hk⟩

theorem wpDraw_mono : ∀ (l : List AOper) (t : AFr) (m : Mem) (past : List Mem) (pend : List (Nat × (Mem → Prop))) (K K' : AFr → Mem → Prop), wpDraw P l t m past pend K → (∀ t m, K t m → K' t m) → wpDraw P l t m past pend K' := by
  intro l
  induction l with
  | nil => intro t m past pend K K' h hk; exact hk _ _ h
  | cons o r ih =>
    intro t m past pend K K' h hk
    refine guardW_mono h (fun h => someW_mono h fun vs h => ?_) (fun h => ⟨h.1, ih _ _ _ _ _ _ h.2 hk⟩)
    unfold drawW at h ⊢
    cases hc : o.k.cls <;> simp only [hc] at h ⊢
    · exact someW_mono h fun _ h => ih _ _ _ _ _ _ h hk
    · exact someW_mono h fun _ h => ⟨h.1, ih _ _ _ _ _ _ h.2 hk⟩
    · exact someW_mono h fun _ h => ih _ _ _ _ _ _ h hk
    · exact someW_mono h fun _ h => ⟨h.1, ih _ _ _ _ _ _ h.2 hk⟩
    · exact callW_mono h fun _ _ h => ⟨h.1, ih _ _ _ _ _ _ h.2 hk⟩
theorem wpDraw_some : ∀ (l : List AOper) (t : AFr) (m : Mem) (past : List Mem) (pend : List (Nat × (Mem → Prop))) (K : AFr → Mem → Prop), wpDraw P l t m past pend K → ∃ t' m', DSeq P l t m past pend t' m' ∧ K t' m' := by
  intro l
  induction l with
  | nil => intro t m past pend K h; exact ⟨t, m, .nil, h⟩
  | cons o r ih =>
    intro t m past pend K h
    rcases guardW_some h with ⟨hw, h⟩ | ⟨hw, h⟩
    · obtain ⟨vs, he, h⟩ := someW_some h
      unfold drawW at h
      cases hc : o.k.cls <;> simp only [hc] at h
      · obtain ⟨v, h1, h⟩ := someW_some h
        obtain ⟨t', m', hs, hk⟩ := ih _ _ _ _ _ h
        exact ⟨t', m', .pure hw he hc h1 hs, hk⟩
      · obtain ⟨v, h1, h2, h⟩ := someW_some h
        obtain ⟨t', m', hs, hk⟩ := ih _ _ _ _ _ h
        exact ⟨t', m', .read hw he hc h1 h2 hs, hk⟩
      · obtain ⟨⟨b, mk⟩, h1, h⟩ := someW_some h
        obtain ⟨t', m', hs, hk⟩ := ih _ _ _ _ _ h
        exact ⟨t', m', .make hw he hc h1 hs, hk⟩
      · obtain ⟨⟨v, m1⟩, h1, h2, h⟩ := someW_some h
        obtain ⟨t', m', hs, hk⟩ := ih _ _ _ _ _ h
        exact ⟨t', m', .loud hw he (by simp [AK.loud, hc]) (.write hc h1) h2 hs, hk⟩
      · obtain ⟨v, m1, h1, h2, h⟩ := callW_some hc h
        obtain ⟨t', m', hs, hk⟩ := ih _ _ _ _ _ h
        exact ⟨t', m', .loud hw he (by simp [AK.loud, hc]) h1 h2 hs, hk⟩
    · obtain ⟨t', m', hs, hk⟩ := ih _ _ _ _ _ h.2
      exact ⟨t', m', .no hw h.1 hs, hk⟩

theorem condW_mono {v : Option AV} {a b a' b' : Prop} (h : condW v a b) (h1 : a → a') (h2 : b → b') : condW v a' b' := by
  unfold condW at *
  split at h
  · exact ⟨fun e => h1 (h.1 e), fun e => h2 (h.2 e)⟩
  · exact h.elim
theorem loopQ_mono {X X' : AFr → Mem → Prop} {Q Q' : Exit → AFr → Mem → Prop} (hx : ∀ t m, X t m → X' t m) (hq : ∀ e t m, Q e t m → Q' e t m) : ∀ e t m, loopQ X Q e t m → loopQ X' Q' e t m := by
  intro e t m h
  cases e <;> first | exact hx _ _ h | exact hq _ _ _ h
theorem blockQ_mono {id : Nat} {Q Q' : Exit → AFr → Mem → Prop} (hq : ∀ e t m, Q e t m → Q' e t m) : ∀ e t m, blockQ id Q e t m → blockQ id Q' e t m := by
  intro e t m h
  cases e
  case exit i =>
    simp only [blockQ] at h ⊢
    split
    · rename_i e; rw [if_pos e] at h; exact hq _ _ _ h
    · rename_i e; rw [if_neg e] at h; exact hq _ _ _ h
  all_goals exact hq _ _ _ h

theorem wpA_mono : ∀ (c : ACode) (t : AFr) (m : Mem) (Q Q' : Exit → AFr → Mem → Prop), wpA P c t m Q → (∀ e t m, Q e t m → Q' e t m) → wpA P c t m Q' := by
  intro c
  induction c with
  | skip => intro t m Q Q' h hq; exact hq _ _ _ h
  | ops ks l => intro t m Q Q' h hq; exact wpSeq_mono _ _ _ _ _ h fun t m h => hq _ _ _ h
  | drawn ks l => intro t m Q Q' h hq; exact wpDraw_mono _ _ _ _ _ _ _ h fun t m h => hq _ _ _ h
  | seq a b iha ihb => intro t m Q Q' h hq; exact iha _ _ _ _ h (loopQ_mono (fun t m h => ihb _ _ _ _ h hq) hq)
  | cond c a b iha ihb => intro t m Q Q' h hq; exact condW_mono h (fun h => iha _ _ _ _ h hq) (fun h => ihb _ _ _ _ h hq)
  | block id a ih => intro t m Q Q' h hq; exact ih _ _ _ _ h (blockQ_mono hq)
  | loop ks a ih => intro t m Q Q' h hq X hX; exact h X fun t m hb => hX t m (ih _ _ _ _ hb (loopQ_mono (fun _ _ h => h) hq))
  | exit id => intro t m Q Q' h hq; exact hq _ _ _ h
  | ret => intro t m Q Q' h hq; exact hq _ _ _ h

/-- One round of a loop, and on. -/
theorem LoopW.fold {ks : List Nat} {a : ACode} {t : AFr} {m : Mem} {Q : Exit → AFr → Mem → Prop} (h : wpA P a (t.cut ks) m (loopQ (fun t m => LoopW ks (wpA P a) t m Q) Q)) : LoopW ks (wpA P a) t m Q :=
  fun X hX => hX t m (wpA_mono _ _ _ _ _ h (loopQ_mono (fun _ _ h => h X hX) (fun _ _ _ h => h)))

/-- A loop by what holds at each round's head, and a measure. -/
theorem LoopW.inv {ks : List Nat} {a : ACode} {Q : Exit → AFr → Mem → Prop} (I : Nat → AFr → Mem → Prop) (h : ∀ k t m, I k t m → wpA P a t m (loopQ (fun t' m' => ∃ k', k' < k ∧ I k' (t'.cut ks) m') Q)) :
    ∀ (k : Nat) (t : AFr) (m : Mem), I k (t.cut ks) m → LoopW ks (wpA P a) t m Q := by
  intro k
  induction k using Nat.strongRecOn with
  | _ k ih =>
    intro t m hI
    exact .fold (wpA_mono _ _ _ _ _ (h k _ m hI) (loopQ_mono (fun t' m' ⟨k', hk, hI'⟩ => ih k' hk t' m' hI') fun _ _ _ h => h))

def ckCode (P : Program) (n : Nat) : Code → Option ACode
  | .skip => some .skip
  | .region _ ops false => (ckOpers P n ops.toList ops.toList).map (.ops [])
  | .region _ ops true => (ckDrawn P n ops).map (.drawn [])
  | .seq a b => (ckCode P n a).bind fun a' => (ckCode P n b).map fun b' => .seq a' b'
  | .cond c a b => (ckX c).bind fun c' => (ckCode P n a).bind fun a' => (ckCode P n b).map fun b' => .cond c' a' b'
  | .block id a => (ckCode P n a).map fun a' => .block id a'
  | .loop a => (ckCode P n a).map fun a' => .loop [] a'
  | .exit id => some (.exit id)
  | .ret => some .ret
  | _ => none

theorem FR.cut {ρ : LMap} {t : AFr} {tmps : Array Value} (h : FR n ρ t tmps) (ks : List Nat) : FR n ρ (t.cut ks) tmps :=
  ⟨h.size, fun i v e => h.at_ i v (AFr.get_cut _ _ _ _ e)⟩
theorem ExecS.cut {c : Code} {t t' : AFr} {m m' : Mem} {e : Exit} (h : ExecS P n c t m e t' m') (ks : List Nat) : ExecS P n c t m e (t'.cut ks) m' :=
  ⟨h.plain, h.ab, fun ρ w a hs hf hr ha => wp_mono (h.to_ ρ w a hs hf hr ha) fun e2 a2 w2 hq => by
    obtain ⟨h1, h2, ρ', h3, h4, h5⟩ := hq
    exact ⟨h1, h2, ρ', h3.cut ks, h4, h5⟩⟩

theorem wpA_sound (hm : P.follows .mixedOrders = true) : ∀ (code : Code) (c : ACode), ckCode P n code = some c.bare → ∀ (t : AFr) (m : Mem) (Q : Exit → AFr → Mem → Prop), wpA P c t m Q →
    ∃ e t' m', Q e t' m' ∧ ExecS P n code t m e t' m' := by
  intro code
  induction code with
  | skip =>
    intro c hc t m Q h
    cases c <;> simp [ckCode, ACode.bare] at hc
    exact ⟨.normal, t, m, h, trivial, .refl _, fun ρ w a hs hf hr ha => wp_skip ⟨rfl, ha, ρ, hr, hs, .refl _ _ _⟩⟩
  | region id ops draw =>
    intro c hc t m Q h
    cases draw with
    | false =>
      simp only [ckCode, Option.map_eq_some_iff] at hc
      obtain ⟨al, hal, hc⟩ := hc
      obtain ⟨ks, rfl⟩ : ∃ ks, c = .ops ks al := by cases c <;> simp [ACode.bare] at hc; exact ⟨_, by rw [hc]⟩
      obtain ⟨t', m', hs, hq⟩ := wpSeq_some _ _ _ _ h
      exact ⟨.normal, _, m', hq, (exec_ops hal hs).cut ks⟩
    | true =>
      simp only [ckCode, Option.map_eq_some_iff] at hc
      obtain ⟨al, hal, hc⟩ := hc
      obtain ⟨ks, rfl⟩ : ∃ ks, c = .drawn ks al := by cases c <;> simp [ACode.bare] at hc; exact ⟨_, by rw [hc]⟩
      obtain ⟨t', m', hs, hq⟩ := wpDraw_some _ _ _ _ _ _ h
      exact ⟨.normal, _, m', hq, (exec_drawn hm hal hs).cut ks⟩
  | seq a b iha ihb =>
    intro c hc t m Q h
    simp only [ckCode, Option.bind_eq_some_iff, Option.map_eq_some_iff] at hc
    obtain ⟨a', ha, b', hb, hc⟩ := hc
    cases c <;> simp only [ACode.bare, ACode.seq.injEq, reduceCtorEq] at hc
    obtain ⟨rfl, rfl⟩ := hc
    rename_i a' b'
    obtain ⟨e, t1, m1, hq, hx⟩ := iha a' ha t m _ h
    by_cases he : e = .normal
    · subst he
      obtain ⟨e2, t2, m2, hq2, hx2⟩ := ihb b' hb t1 m1 _ hq
      exact ⟨e2, t2, m2, hq2, hx.trans hx2⟩
    · refine ⟨e, t1, m1, ?_, hx.left he⟩
      cases e <;> first | exact absurd rfl he | exact hq
  | cond x a b iha ihb =>
    intro c hc t m Q h
    simp only [ckCode, Option.bind_eq_some_iff, Option.map_eq_some_iff] at hc
    obtain ⟨c', hc', a', ha, b', hb, hc⟩ := hc
    cases c <;> simp only [ACode.bare, ACode.cond.injEq, reduceCtorEq] at hc
    obtain ⟨rfl, rfl, rfl⟩ := hc
    rename_i a' b'
    simp only [wpA, condW] at h
    split at h
    · rename_i y hy
      have hev : ∀ (ρ : LMap) (a : Act), FR n ρ t a.tmps → a.eval x = .bool y := by
        intro ρ a hr
        have := eval_ck (a := a) hr [x] [c'] [.bool y] (by simp [ckXs, hc']) (by simp [evalAll, hy])
        cases this with
        | cons hv _ => cases hv' : a.eval x <;> rw [hv'] at hv <;> cases hv; rfl
      cases y with
      | true =>
        obtain ⟨e, t1, m1, hq, hx⟩ := iha a' ha t m Q (h.1 rfl)
        exact ⟨e, t1, m1, hq, hx.plain, hx.ab, fun ρ w a hs hf hr had => wp_cond_true (hev ρ a hr) (hx.to_ ρ w a hs hf hr had)⟩
      | false =>
        obtain ⟨e, t1, m1, hq, hx⟩ := ihb b' hb t m Q (h.2 rfl)
        exact ⟨e, t1, m1, hq, hx.plain, hx.ab, fun ρ w a hs hf hr had => wp_cond_false (hev ρ a hr) (hx.to_ ρ w a hs hf hr had)⟩
    · exact h.elim
  | block id a ih =>
    intro c hc t m Q h
    simp only [ckCode, Option.map_eq_some_iff] at hc
    obtain ⟨a', ha, hc⟩ := hc
    cases c <;> simp only [ACode.bare, ACode.block.injEq, reduceCtorEq] at hc
    obtain ⟨rfl, rfl⟩ := hc
    rename_i a'
    obtain ⟨e, t1, m1, hq, hx⟩ := ih a' ha t m _ h
    refine ⟨Exit.leaves id e, t1, m1, ?_, hx.block id⟩
    cases e
    case exit i =>
      simp only [blockQ, Exit.leaves] at hq ⊢
      split
      · rename_i h; rw [if_pos h] at hq; exact hq
      · rename_i h; rw [if_neg h] at hq; exact hq
    all_goals exact hq
  | loop a ih =>
    intro c hc t m Q h
    simp only [ckCode, Option.map_eq_some_iff] at hc
    obtain ⟨a', ha, hc⟩ := hc
    obtain ⟨ks, b', rfl, rfl⟩ : ∃ ks b', c = .loop ks b' ∧ a' = b'.bare := by cases c <;> simp [ACode.bare] at hc; exact ⟨_, _, rfl, hc⟩
    refine h (fun t m => ∃ e t' m', Q e t' m' ∧ ExecS P n (.loop a) t m e t' m') fun t m hb => ?_
    obtain ⟨e, t1, m1, hq, hx⟩ := ih b' ha _ m _ hb
    have hx : ExecS P n a t m e t1 m1 := ⟨hx.plain, hx.ab, fun ρ w ac hs hf hr had => hx.to_ ρ w ac hs hf (hr.cut ks) had⟩
    by_cases he : e = .normal
    · subst he
      obtain ⟨e2, t2, m2, hq2, hx2⟩ := hq
      exact ⟨e2, t2, m2, hq2, hx.round hx2⟩
    · refine ⟨e, t1, m1, ?_, hx.out he⟩
      cases e <;> first | exact absurd rfl he | exact hq
  | exit id =>
    intro c hc t m Q h
    cases c <;> simp [ckCode, ACode.bare] at hc
    subst hc
    exact ⟨.exit _, t, m, h, trivial, .refl _, fun ρ w a hs hf hr ha => wp_exit ⟨rfl, ha, ρ, hr, hs, .refl _ _ _⟩⟩
  | ret =>
    intro c hc t m Q h
    cases c <;> simp [ckCode, ACode.bare] at hc
    exact ⟨.ret, t, m, h, trivial, .refl _, fun ρ w a hs hf hr ha => wp_ret ⟨rfl, ha, ρ, hr, hs, .refl _ _ _⟩⟩
  | rangeFunc => intro c hc; simp [ckCode] at hc
  | scope => intro c hc; simp [ckCode] at hc
  | label => intro c hc; simp [ckCode] at hc
  | goto => intro c hc; simp [ckCode] at hc
  | refuse => intro c hc; simp [ckCode] at hc

/-! ## A function -/

/-- A result: a temporary, or a variable in memory (does it hold a struct or an array? its cells). -/
inductive ARes where
  | tmp (t : Nat)
  | cell (t : Nat) (agg : Bool) (n : Nat)
def ckRes (P : Program) : List ResultVar → Option (List ARes)
  | [] => some []
  | .tmp t :: r => (ckRes P r).map (.tmp t :: ·)
  | .cell t ty :: r => (sizeD P ty).bind fun s => (aggD P ty).bind fun g => if g || s == 1 then (ckRes P r).map (.cell t g s :: ·) else none
def resOne (t : AFr) (m : Mem) : ARes → Option AV
  | .tmp x => t.get x
  | .cell x g s => (t.get x).bind fun p => rLoad g s m [p]
def resAll (t : AFr) (m : Mem) : List ARes → Option (List AV)
  | [] => some []
  | r :: rs => (resOne t m r).bind fun v => (resAll t m rs).map (v :: ·)
def resVal : List AV → AV
  | [v] => v
  | l => .tup l

def frameOf : Nat → List AV → AFr
  | _, [] => []
  | i, a :: r => (i, a) :: frameOf (i + 1) r

theorem frameOf_get : ∀ (l : List AV) (i j : Nat) (v : AV), (frameOf i l).get j = some v → i ≤ j ∧ l[j - i]? = some v := by
  intro l
  induction l with
  | nil => intro i j v h; simp [frameOf, AFr.get] at h
  | cons a l ih =>
    intro i j v h
    simp only [frameOf, AFr.get] at h
    split at h
    · rename_i e; subst e; cases h; simp
    · obtain ⟨h1, h2⟩ := ih _ _ _ h
      refine ⟨by omega, ?_⟩
      rw [show j - i = (j - (i + 1)) + 1 by omega]
      simpa using h2

/-- How a function of the program is told: its abstract code, its results. -/
structure FnOk (P : Program) (f : FuncId) (c : ACode) (rs : List ARes) : Prop where
  ex : ∃ fn code, P.funcs[f]? = some fn ∧ (fn.name == "runtime.NumGoroutine") = false ∧ fn.body = some code ∧ ckCode P fn.ntmps code = some c.bare ∧ ckRes P fn.results.toList = some rs

def resSem (tmps : Array Value) : ResultVar → Sem Value
  | .tmp t => pure (tmps.getD t undef)
  | .cell a t => do loadVar t (← asAddr (tmps.getD a undef))
theorem results_eq (fn : Func) (tmps : Array Value) : results fn tmps = (do
    let vs ← fn.results.mapM (resSem tmps)
    pure (if h : vs.size = 1 then vs[0] else .tuple vs)) := by
  unfold results
  congr 1

theorem resAll_run {ρ : LMap} {t : AFr} {m : Mem} {w : World} {tmps : Array Value} (hr : FR n ρ t tmps) (hs : Sim m ρ w) : ∀ (rv : List ResultVar) (rs : List ARes) (vs : List AV), ckRes P rv = some rs → resAll t m rs = some vs →
    ∃ cs, (rv.mapM (resSem tmps)).run P w = .ok cs w ∧ VRL ρ vs cs := by
  intro rv
  induction rv with
  | nil => intro rs vs h1 h2; cases h1; cases h2; exact ⟨[], by simp, .nil⟩
  | cons r rv ih =>
    intro rs vs h1 h2
    cases r with
    | tmp x =>
      simp only [ckRes, Option.map_eq_some_iff] at h1
      obtain ⟨rs', h1, rfl⟩ := h1
      simp only [resAll, resOne, Option.bind_eq_some_iff, Option.map_eq_some_iff] at h2
      obtain ⟨v, hv, vs', hvs, rfl⟩ := h2
      obtain ⟨cs, g1, g2⟩ := ih _ _ h1 hvs
      refine ⟨_ :: cs, ?_, .cons (hr.at_ _ _ hv) g2⟩
      rw [List.mapM_cons]
      simp [resSem, g1]
    | cell x ty =>
      simp only [ckRes, Option.bind_eq_some_iff] at h1
      obtain ⟨s, hsz, g, hg, h1⟩ := h1
      split at h1
      · rename_i hgs
        simp only [Option.map_eq_some_iff] at h1
        obtain ⟨rs', h1, rfl⟩ := h1
        simp only [resAll, resOne, Option.bind_eq_some_iff, Option.map_eq_some_iff] at h2
        obtain ⟨v, ⟨p, hp, hv⟩, vs', hvs, rfl⟩ := h2
        obtain ⟨cs, g1, g2⟩ := ih _ _ h1 hvs
        have hpr := hr.at_ _ _ hp
        unfold rLoad at hv
        split at hv
        · rename_i b o he
          simp only [List.cons.injEq, and_true] at he
          subst he
          generalize hq : tmps.getD x undef = q at hpr
          cases hpr
          rename_i L hρ
          simp only [Option.bind_eq_some_iff] at hv
          obtain ⟨cells, hrow, hv⟩ := hv
          have hload : ∃ v', VR ρ v v' ∧ (loadVar ty (L.addr o)).run P w = .ok v' w := by
            cases g with
            | true =>
              simp only [aPart] at hv
              split at hv
              · rename_i hle
                cases hv
                obtain ⟨ds, c1, c2, c3⟩ := hs.cells hρ hrow hle
                have hl := run_loadCells_list (P := P) w (L.addr o) ds c3
                rw [c1] at hl
                exact ⟨.agg ds.toArray, .mk_agg c2 (all_take (all_drop (hs.flat hρ hrow) _) _), by simp [loadVar, run_isAgg hg, run_sizeOf hsz, hl]⟩
              · cases hv
            | false =>
              simp only [aPart] at hv
              obtain ⟨r, hr'⟩ := rowOf_some hrow
              obtain ⟨v', k1, k2⟩ := hs.cell hρ hr' hv
              exact ⟨v', k2, by simp [loadVar, run_isAgg hg, k1]⟩
          obtain ⟨v', k1, k2⟩ := hload
          refine ⟨v' :: cs, ?_, .cons k1 g2⟩
          rw [List.mapM_cons]
          simp only [resSem, hq, asAddr, pure_bind, Sem.run_bind, k2, Result.andThen_ok, g1, Sem.run_pure]
        · cases hv
      · cases h1

theorem ans_of (hm : P.follows .mixedOrders = true) {f : FuncId} {c : ACode} {rs : List ARes} (hf : FnOk P f c rs) {args : List AV} {m : Mem} {R : AV → Mem → Prop}
    (h : wpA P c (frameOf 0 args) m fun e t' m' => (e = .normal ∨ e = .ret) ∧ someW (resAll t' m' rs) fun vs => R (resVal vs) m') : Ans P f args m R := by
  obtain ⟨fn, code, h1, h2, h3, h4, h5⟩ := hf.ex
  obtain ⟨e, t', m', ⟨he, hq⟩, hx⟩ := wpA_sound hm code c h4 _ _ _ h
  obtain ⟨vs, hvs, hR⟩ := someW_some hq
  refine ⟨resVal vs, m', ⟨⟨fn, h1, h2, by rw [h3]; rfl⟩, hx.ab, fun ρ w cargs hs hfr hv => ?_⟩, hR⟩
  refine calls_of_wp h1 h3 ?_
  have hvl := hv.length
  have hr0 : FR fn.ntmps ρ (frameOf 0 args) (cargs ++ Array.replicate (fn.ntmps - cargs.size) undef) := by
    refine ⟨by simp; omega, fun i v hi => ?_⟩
    obtain ⟨_, hi⟩ := frameOf_get _ _ _ _ hi
    simp only [Nat.sub_zero] at hi
    have hlt := lt_of_get hi
    simp only [Array.length_toList] at hvl
    have hc : cargs[i]? = some (cargs[i]'(by omega)) := by simp [show i < cargs.size by omega]
    have : (cargs ++ Array.replicate (fn.ntmps - cargs.size) undef).getD i undef = cargs[i]'(by omega) := by
      simp only [Array.getD_eq_getD_getElem?]
      rw [Array.getElem?_append_left (by omega), hc]
      rfl
    rw [this]
    exact hv.get i v _ hi (by simp [show i < cargs.size by omega])
  refine wp_mono (hx.to_ ρ w _ hs hfr hr0 rfl) fun e2 a2 w2 hq2 => ?_
  obtain ⟨rfl, hd, ρ', hr, hs', hst⟩ := hq2
  obtain ⟨cs, hrun, hcs⟩ := resAll_run (P := P) hr hs' _ _ _ h5 hvs
  have hres : ∃ v', (results fn a2.tmps).run P w2 = .ok v' w2 ∧ VR ρ' (resVal vs) v' := by
    rw [results_eq, Array.mapM_eq_mapM_toList]
    simp only [Sem.run_bind, Sem.run_map, hrun, Result.andThen_ok]
    cases hcs with
    | nil => exact ⟨_, by simp, .mk_tup' (l := []) (cs := #[]) .nil⟩
    | cons a b =>
      cases b with
      | nil => exact ⟨_, by simp, a⟩
      | cons a2 b => exact ⟨_, by simp, .mk_tup (.cons a (.cons a2 b))⟩
  obtain ⟨v', hv1, hv2⟩ := hres
  rcases he with rfl | rfl
  · exact ⟨hd, v', hv1, v', ρ', rfl, hv2, hs', hst⟩
  · exact ⟨hd, v', hv1, v', ρ', rfl, hv2, hs', hst⟩
end
end Go.Adm
