/- The check of a region that draws its order gives what the theorem asks; the predicate over code; calls. -/
import Derived.Test.YthdkclkiegkabaaAdmO
namespace Go.Adm

theorem edgeMask_test {o : Oper} {acc : List Nat} {x : Nat} (h : (edgeMask o acc).testBit x = true) : ∃ e ∈ o.after, Region.binds .any e = true ∧ (x = e.on ∨ (acc.getD e.on 0).testBit x = true) := by
  have key : ∀ (es : List Edge) (s : Nat), (es.foldl (fun s e => if Region.binds .any e then s ||| 2 ^ e.on ||| acc.getD e.on 0 else s) s).testBit x = true →
      s.testBit x = true ∨ ∃ e ∈ es, Region.binds .any e = true ∧ (x = e.on ∨ (acc.getD e.on 0).testBit x = true) := by
    intro es
    induction es with
    | nil => intro s h; exact .inl h
    | cons e es ih =>
      intro s h
      rcases ih _ h with g | ⟨e', h1, h2⟩
      · dsimp only at g
        split at g
        · rename_i hb
          simp only [Nat.testBit_or, Bool.or_eq_true, Nat.testBit_two_pow, decide_eq_true_eq] at g
          rcases g with (g | g) | g
          · exact .inl g
          · exact .inr ⟨e, List.mem_cons_self, hb, .inl g.symm⟩
          · exact .inr ⟨e, List.mem_cons_self, hb, .inr g⟩
        · exact .inl g
      · exact .inr ⟨e', List.mem_cons_of_mem _ h1, h2⟩
  rcases key _ _ h with g | ⟨e, h1, h2⟩
  · simp at g
  · exact ⟨e, by simpa using h1, h2⟩

theorem befs_spec : ∀ (ops : List Oper) (acc : List Nat), ∃ r, befs ops acc = acc ++ r ∧ r.length = ops.length ∧
    ∀ (i : Nat) (o : Oper), ops[i]? = some o → r[i]? = some (edgeMask o (acc ++ r.take i)) := by
  intro ops
  induction ops with
  | nil => intro acc; exact ⟨[], by simp [befs], rfl, fun i o h => by simp at h⟩
  | cons o ops ih =>
    intro acc
    obtain ⟨r, h1, h2, h3⟩ := ih (acc ++ [edgeMask o acc])
    refine ⟨edgeMask o acc :: r, by simp [befs, h1], by simp [h2], fun i o' hi => ?_⟩
    cases i with
    | zero => simp at hi; subst hi; simp
    | succ i =>
      have := h3 i o' (by simpa using hi)
      simpa using this

theorem okPre_spec {o : AOper} {b : Nat} : ∀ (l : List AOper) (i0 : Nat), okPre o b l i0 = true → ∀ (p : Nat) (a : AOper), l[p]? = some a → clash a o = true → b.testBit (i0 + p) = true := by
  intro l
  induction l with
  | nil => intro i0 _ p a h; simp at h
  | cons x l ih =>
    intro i0 h p a hp hc
    simp only [okPre, Bool.and_eq_true, Bool.or_eq_true, Bool.not_eq_true'] at h
    cases p with
    | zero =>
      simp at hp; subst hp
      rcases h.1 with g | g
      · simpa using g
      · rw [hc] at g; cases g
    | succ p =>
      have := ih (i0 + 1) h.2 p a (by simpa using hp) hc
      rwa [show i0 + (p + 1) = i0 + 1 + p by omega]

theorem okAll_spec : ∀ (al : List AOper) (bs : List Nat) (pre : List AOper), okAll al bs pre = true → ∀ (i : Nat) (o : AOper) (b : Nat), al[i]? = some o → bs[i]? = some b → ∀ (p : Nat) (a : AOper), (pre ++ al.take i)[p]? = some a → clash a o = true → b.testBit p = true := by
  intro al
  induction al with
  | nil => intro bs pre _ i o b h; simp at h
  | cons x al ih =>
    intro bs pre h i o b hi hb p a hp hc
    cases bs with
    | nil => simp [okAll] at h
    | cons c bs =>
      simp only [okAll, Bool.and_eq_true] at h
      cases i with
      | zero =>
        simp at hi hb; subst hi; subst hb
        have := okPre_spec pre 0 h.1 p a (by simpa using hp) hc
        simpa using this
      | succ i =>
        exact ih bs (pre ++ [x]) h.2 i o b (by simpa using hi) (by simpa using hb) p a (by simpa using hp) hc

theorem edgesOk_spec : ∀ (ops : List Oper) (i0 : Nat), edgesOk ops i0 = true → ∀ (i : Nat) (o : Oper), ops[i]? = some o → ∀ e ∈ o.after, Region.binds .any e = true → e.on < i0 + i := by
  intro ops
  induction ops with
  | nil => intro i0 _ i o h; simp at h
  | cons x ops ih =>
    intro i0 h i o hi e he hb
    simp only [edgesOk, Bool.and_eq_true, List.all_eq_true, Bool.or_eq_true, Bool.not_eq_true', decide_eq_true_eq] at h
    cases i with
    | zero =>
      simp at hi; subst hi
      rcases h.1 e (by simpa using he) with g | g
      · rw [hb] at g; cases g
      · exact g
    | succ i =>
      have := ih (i0 + 1) h.2 i o (by simpa using hi) e he hb
      omega

theorem marked_get {ls : List (Nat × Nat)} : ∀ (al : List AOper) (bs : List Nat) (i0 i : Nat) (o : AOper), (marked ls al bs i0)[i]? = some o →
    ∃ a b, al[i]? = some a ∧ bs[i]? = some b ∧ o = { a with lo := (ls.filter fun l => b.testBit l.1).length, hi := (ls.filter fun l => !l.2.testBit (i0 + i)).length } := by
  intro al
  induction al with
  | nil => intro bs i0 i o h; simp [marked] at h
  | cons x al ih =>
    intro bs i0 i o h
    cases bs with
    | nil => simp [marked] at h
    | cons b bs =>
      cases i with
      | zero =>
        simp only [marked, List.getElem?_cons_zero, Option.some.injEq] at h
        exact ⟨x, b, rfl, rfl, by rw [← h]; rfl⟩
      | succ i =>
        simp only [marked, List.getElem?_cons_succ] at h
        obtain ⟨a, c, h1, h2, h3⟩ := ih bs (i0 + 1) i o h
        exact ⟨a, c, by simpa using h1, by simpa using h2, by rw [h3, show i0 + 1 + i = i0 + (i + 1) by omega]⟩

theorem marked_length {ls : List (Nat × Nat)} : ∀ (al : List AOper) (bs : List Nat) (i0 : Nat), bs.length = al.length → (marked ls al bs i0).length = al.length := by
  intro al
  induction al with
  | nil => intro bs i0 _; simp [marked]
  | cons x al ih =>
    intro bs i0 h
    cases bs with
    | nil => simp at h
    | cons b bs => simp [marked, ih bs (i0 + 1) (by simpa using h)]

theorem loudIn_marked {ls : List (Nat × Nat)} : ∀ (al : List AOper) (bs : List Nat) (i0 c : Nat), bs.length = al.length → loudIn (marked ls al bs i0) c = loudIn al c := by
  intro al
  induction al with
  | nil => intro bs i0 c _; simp [marked]
  | cons x al ih =>
    intro bs i0 c h
    cases bs with
    | nil => simp at h
    | cons b bs =>
      cases c with
      | zero => simp [loudIn]
      | succ c =>
        simp only [marked]
        rw [loudIn_cons, loudIn_cons, ih bs (i0 + 1) c (by simpa using h)]

theorem loudsOf_mem : ∀ (al : List AOper) (bs : List Nat) (i0 : Nat) (x : Nat × Nat), x ∈ loudsOf al bs i0 → ∃ i o, x.1 = i0 + i ∧ al[i]? = some o ∧ o.k.loud = true ∧ bs[i]? = some x.2 := by
  intro al
  induction al with
  | nil => intro bs i0 x h; simp [loudsOf] at h
  | cons y al ih =>
    intro bs i0 x h
    cases bs with
    | nil => simp [loudsOf] at h
    | cons b bs =>
      simp only [loudsOf] at h
      have rest : x ∈ loudsOf al bs (i0 + 1) → ∃ i o, x.1 = i0 + i ∧ (y :: al)[i]? = some o ∧ o.k.loud = true ∧ (b :: bs)[i]? = some x.2 := by
        intro h
        obtain ⟨i, o, h1, h2, h3, h4⟩ := ih bs (i0 + 1) x h
        exact ⟨i + 1, o, by omega, by simpa using h2, h3, by simpa using h4⟩
      split at h
      · rename_i hl
        cases h with
        | head => exact ⟨0, y, rfl, rfl, hl, rfl⟩
        | tail _ h => exact rest h
      · exact rest h

theorem loudsOf_count : ∀ (al : List AOper) (bs : List Nat) (i0 c : Nat), bs.length = al.length → ((loudsOf al bs i0).filter fun x => decide (x.1 < i0 + c)).length = loudIn al c := by
  intro al
  induction al with
  | nil => intro bs i0 c _; simp [loudsOf, loudIn]
  | cons y al ih =>
    intro bs i0 c h
    cases bs with
    | nil => simp at h
    | cons b bs =>
      have h' : bs.length = al.length := by simpa using h
      cases c with
      | zero =>
        rw [loudIn_zero]
        simp only [List.length_eq_zero_iff, List.filter_eq_nil_iff, decide_eq_true_eq]
        intro x hx
        obtain ⟨i, _, h1, _⟩ := loudsOf_mem _ _ _ x hx
        omega
      | succ c =>
        rw [loudIn_cons, ← ih bs (i0 + 1) c h']
        simp only [loudsOf]
        split
        · rw [List.filter_cons, if_pos (by simp)]
          simp only [List.length_cons]
          rw [show i0 + (c + 1) = i0 + 1 + c by omega]; omega
        · rw [show i0 + (c + 1) = i0 + 1 + c by omega]; simp

theorem filter_le {α : Type} {p q : α → Bool} : ∀ (xs : List α), (∀ x ∈ xs, p x = true → q x = true) → (xs.filter p).length ≤ (xs.filter q).length := by
  intro xs
  induction xs with
  | nil => intro _; simp
  | cons z zs ihz =>
    intro h
    have := ihz fun x hx => h x (List.mem_cons_of_mem _ hx)
    have hz := h z List.mem_cons_self
    simp only [List.filter_cons]
    cases hpz : p z
    · simp only [Bool.false_eq_true, if_false]
      split
      · simp; omega
      · exact this
    · rw [hpz] at hz
      simp [hz rfl]; omega

section
variable {P : Program} {n : Nat}

theorem ckOpers_get {all : List Oper} : ∀ (os : List Oper) (al : List AOper), ckOpers P n all os = some al → al.length = os.length ∧ ∀ (i : Nat) (o : Oper), os[i]? = some o → ∃ a, al[i]? = some a ∧ ckOper P n all o 0 0 = some a := by
  intro os
  induction os with
  | nil => intro al h; cases h; exact ⟨rfl, fun i o h => by simp at h⟩
  | cons o os ih =>
    intro al h
    simp only [ckOpers, Option.bind_eq_some_iff, Option.map_eq_some_iff] at h
    obtain ⟨a, ha, al', hal, rfl⟩ := h
    obtain ⟨h1, h2⟩ := ih al' hal
    refine ⟨by simp [h1], fun i o' hi => ?_⟩
    cases i with
    | zero => simp at hi; subst hi; exact ⟨a, rfl, ha⟩
    | succ i =>
      obtain ⟨a', h3, h4⟩ := h2 i o' (by simpa using hi)
      exact ⟨a', by simpa using h3, h4⟩

theorem ckOper_mark {all : List Oper} {o : Oper} {a : AOper} (h : ckOper P n all o 0 0 = some a) (lo hi : Nat) : ckOper P n all o lo hi = some { a with lo := lo, hi := hi } := by
  unfold ckOper at h ⊢
  simp only [Option.bind_eq_some_iff] at h ⊢
  obtain ⟨p, h1, xs, h2, g, h3, h⟩ := h
  refine ⟨p, h1, xs, h2, g, h3, ?_⟩
  split at h
  · rename_i hd
    rw [if_pos hd]
    cases h; rfl
  · cases h

theorem sched_of {ops : Array Oper} {l : List AOper} (h : ckDrawn P n ops = some l) : ∃ B, Sched P n ops l B := by
  unfold ckDrawn at h
  simp only [Option.bind_eq_some_iff] at h
  obtain ⟨al, hal, h⟩ := h
  split at h
  · rename_i hok
    simp only [Bool.and_eq_true] at hok
    cases h
    obtain ⟨r, hr1, hr2, hr3⟩ := befs_spec ops.toList []
    rw [List.nil_append] at hr1
    rw [hr1] at hok ⊢
    obtain ⟨hl1, hl2⟩ := ckOpers_get _ _ hal
    have hlen : r.length = al.length := by rw [hr2, hl1]
    refine ⟨fun i => r.getD i 0, ?_, ?_, ?_, ?_, ?_, ?_, ?_⟩
    · rw [marked_length _ _ _ hlen, hl1]; simp
    · intro i o hi
      obtain ⟨a, b, h1, h2, rfl⟩ := marked_get _ _ _ _ _ hi
      have hlt := lt_of_get h1
      have hco : ops.toList[i]? = some (ops.toList[i]'(by omega)) := by simp [show i < ops.size by simpa using (show i < ops.toList.length by omega)]
      obtain ⟨a', g1, g2⟩ := hl2 i _ hco
      rw [h1] at g1; cases g1
      exact ⟨_, by rw [← Array.getElem?_toList]; exact hco, ckOper_mark g2 _ _⟩
    · intro i co hco e he hb
      have := edgesOk_spec _ _ hok.1 i co (by simpa using hco) e he hb
      omega
    · intro i co hco x hx
      have := hr3 i co (by simpa using hco)
      simp only [List.getD_eq_getElem?_getD, this, Option.getD_some] at hx
      obtain ⟨e, h1, h2, h3⟩ := edgeMask_test hx
      refine ⟨e, h1, h2, h3.imp id fun g => ?_⟩
      simp only [List.nil_append, List.getD_eq_getElem?_getD, List.getElem?_take] at g ⊢
      split at g
      · exact g
      · simp at g
    · intro p i a o hpi hp hi hc
      obtain ⟨a', b', h1, h2, rfl⟩ := marked_get _ _ _ _ _ hp
      obtain ⟨o', c', h3, h4, rfl⟩ := marked_get _ _ _ _ _ hi
      have := okAll_spec _ _ _ hok.2 i o' c' h3 h4 p a' (by rw [List.nil_append, List.getElem?_take_of_lt hpi]; exact h1) hc
      simp only [List.getD_eq_getElem?_getD, h4, Option.getD_some]
      exact this
    · intro i o hi c hcc
      obtain ⟨o', b, h3, h4, rfl⟩ := marked_get _ _ _ _ _ hi
      rw [loudIn_marked _ _ _ _ hlen]
      have hcount := loudsOf_count al r 0 c hlen
      simp only [Nat.zero_add] at hcount
      rw [← hcount]
      refine filter_le _ fun x hx hbx => ?_
      obtain ⟨q, y, g1, g2, g3, g4⟩ := loudsOf_mem _ _ _ x hx
      rw [Nat.zero_add] at g1
      simp only [decide_eq_true_eq]
      rw [g1] at hbx ⊢
      have hq : (marked (loudsOf al r 0) al r 0)[q]? = some ((marked (loudsOf al r 0) al r 0)[q]'(by rw [marked_length _ _ _ hlen]; exact lt_of_get g2)) := by
        simp [show q < (marked (loudsOf al r 0) al r 0).length by rw [marked_length _ _ _ hlen]; exact lt_of_get g2]
      obtain ⟨y', b', k1, k2, k3⟩ := marked_get _ _ _ _ _ hq
      rw [g2] at k1; cases k1
      refine hcc q _ hq (by rw [k3]; exact g3) ?_
      simp only [List.getD_eq_getElem?_getD, h4, Option.getD_some]
      exact hbx
    · intro i o hi c hcc
      obtain ⟨o', b, h3, h4, rfl⟩ := marked_get _ _ _ _ _ hi
      rw [loudIn_marked _ _ _ _ hlen]
      have hcount := loudsOf_count al r 0 c hlen
      simp only [Nat.zero_add] at hcount
      rw [← hcount]
      refine filter_le _ fun x hx hbx => ?_
      obtain ⟨q, y, g1, g2, g3, g4⟩ := loudsOf_mem _ _ _ x hx
      rw [Nat.zero_add] at g1
      simp only [decide_eq_true_eq] at hbx
      rw [g1] at hbx
      have hq : (marked (loudsOf al r 0) al r 0)[q]? = some ((marked (loudsOf al r 0) al r 0)[q]'(by rw [marked_length _ _ _ hlen]; exact lt_of_get g2)) := by
        simp [show q < (marked (loudsOf al r 0) al r 0).length by rw [marked_length _ _ _ hlen]; exact lt_of_get g2]
      obtain ⟨y', b', k1, k2, k3⟩ := marked_get _ _ _ _ _ hq
      rw [g2] at k1; cases k1
      have := hcc q _ hq (by rw [k3]; exact g3) hbx
      simp only [List.getD_eq_getElem?_getD, g4, Option.getD_some] at this
      simp only [Nat.zero_add, this, Bool.not_false]
  · cases h

/-- A region that draws its order. -/
theorem exec_drawn {id : Nat} {ops : Array Oper} {l : List AOper} (hm : P.follows .mixedOrders = true) (hc : ckDrawn P n ops = some l) {t t' : AFr} {m m' : Mem} (h : DSeq P l t m [] [] t' m') : ExecS P n (.region id ops true) t m .normal t' m' := by
  obtain ⟨B, S⟩ := sched_of hc
  obtain ⟨T, M, V, rfl, rfl, rfl, rfl, R⟩ := dseq_run h
  have R : Run P l 0 [] [] T M V := R
  refine ⟨trivial, R.asteps (i := 0) l.length (by omega) (Nat.le_refl _), fun ρ w a hs hf hr ha => wp_region_any hm ?_⟩
  refine any_exec S R (ρ0 := ρ) (w0 := w) (fun a2 w2 ρ2 h1 h2 h3 h4 => ⟨rfl, h4, ρ2, h1, h2, h3⟩) _ _ _ _ ?_ ?_
  · refine Nat.le_trans (List.length_filter_le _ _) ?_
    rw [List.length_range, S.len]; exact Nat.le_refl _
  · have hoff : ∀ i, ¬ on (Array.replicate ops.size false) i := by
      intro i h
      unfold on at h
      simp only [Array.getD_eq_getD_getElem?, Array.getElem?_replicate] at h
      split at h <;> simp at h
    obtain ⟨p, q1, q2, q3, q4⟩ := next_loud l (l.length - 0) 0 rfl (by omega)
    obtain ⟨e, he⟩ := R.quiets (i := 0) p q1 q2 q4
    refine ⟨by simp [S.len], ha, fun j x hj => absurd hj (hoff j), ρ, p, q2, q3, fun x hx => ⟨fun h => absurd h (hoff x), fun h => absurd hx (q4 x (by omega) h)⟩, ?_, fun i hi _ b h1 h2 => ?_, ?_, hr.size, fun i o x _ h => absurd h (hoff i), fun x v _ h => hr.at_ x v h⟩
    · have hs' : SimF (fun b => (M 0)[b]?) ρ ({ w with drawn := w.drawn + 1 } : World) := by
        have := hs.drew.toF
        exact this
      refine hs'.transfer fun b L k hL hm hk => ?_
      unfold memAt at hm
      by_cases c0 : b < (M 0).length
      · rw [if_pos (by rw [he]; simp; omega), he, List.getElem?_append_left c0] at hm
        exact hm
      · exfalso
        have hN := (R.asteps (i := 0) l.length (by omega) (Nat.le_refl _)).len
        have hnone : b < (M l.length).length → ρ b = none := fun hb => hf b (by omega) hb
        split at hm
        · rename_i c1
          have := (R.asteps (i := p) l.length q2 (Nat.le_refl _)).len
          rw [hnone (by omega)] at hL; cases hL
        · unfold initB at hm
          split at hm
          · rename_i hex
            obtain ⟨j, hj, hjl⟩ := hex.choose_spec
            have hjlt := hj.lt
            have := (R.asteps (i := j + 1) l.length (by omega) (Nat.le_refl _)).len
            obtain ⟨_, _, _, _, e'⟩ := hj
            rw [e'] at this; simp at this
            rw [hnone (by omega)] at hL; cases hL
          · cases hm
    · have h0 := (R.asteps (i := 0) i (by omega) (by omega)).len
      have h1' := (R.asteps (i := i + 1) l.length (by omega) (Nat.le_refl _)).len
      exact hf b (by omega) (by omega)
    · exact ⟨fun b _ => rfl, fun b L g1 g2 g3 => (by rw [hf b g1 g2] at g3; cases g3), rfl, rfl, rfl, Nat.le_refl _, fun B _ _ => rfl⟩
end
end Go.Adm
