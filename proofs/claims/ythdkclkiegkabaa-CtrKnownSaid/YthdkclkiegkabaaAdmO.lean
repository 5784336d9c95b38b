/- Each order of a region comes to what the text's order comes to. -/
import Derived.Test.YthdkclkiegkabaaAdmN
namespace Go.Adm

section
variable {P : Program} {n : Nat} {ops : Array Oper} {l : List AOper} {B : Nat → Nat} {T : Nat → AFr} {M : Nat → Mem} {V : Nat → AV}

theorem quiet_exec {co : Oper} {i lo hi : Nat} {ao : AOper} (hio : ops[i]? = some co) (hc : ckOper P n ops.toList co lo hi = some ao) {t : AFr} {m : Mem} {vs : List AV} {v : AV}
    (hw : wantedA ao.g t = some true) (he : evalAll t ao.xs = some vs) (hq : (ao.k.cls = .pure ∧ aP ao.k vs = some v) ∨ (ao.k.cls = .read ∧ aR ao.k vs m = some v))
    {ρ : LMap} {w : World} {a : Act} {Q : Exit → Act → World → Prop} (hs : Sim m ρ w) (hr : FR n ρ t a.tmps) {K : Act → World → Prop} (hK : ∀ v', VR ρ v v' → K (a.put co.dst v') w) : wpOp P ops Q i K a w := by
  obtain ⟨h1, h2, h3, _, _, xs, h4, h5⟩ := ckOper_spec hc
  unfold wpOp
  simp only [hio]
  rw [wanted_ck h3 hw hr]
  simp only [if_true]
  refine .inl ?_
  have hv := eval_ck hr _ _ _ h5 he
  unfold Oper.wp
  rcases hq with ⟨hk, ha⟩ | ⟨hk, ha⟩
  · obtain ⟨v', g1, g2⟩ := pure_sound h4 hk ha hv
    rw [g2 w, Oper.upon_value]
    exact hK _ g1
  · obtain ⟨v', g1, g2⟩ := read_sound h4 hk ha hv hs
    rw [g2, Oper.upon_value]
    exact hK _ g1

theorem no_exec {co : Oper} {i lo hi : Nat} {ao : AOper} (hio : ops[i]? = some co) (hc : ckOper P n ops.toList co lo hi = some ao) {t : AFr} (hw : wantedA ao.g t = some false)
    {ρ : LMap} {w : World} {a : Act} {Q : Exit → Act → World → Prop} (hr : FR n ρ t a.tmps) {K : Act → World → Prop} (hK : K (a.put co.dst undef) w) : wpOp P ops Q i K a w := by
  obtain ⟨h1, h2, h3, _, _, xs, h4, h5⟩ := ckOper_spec hc
  unfold wpOp
  simp only [hio]
  rw [wanted_ck h3 hw hr]
  simp only [Bool.false_eq_true, if_false]
  exact hK

theorem make_exec {co : Oper} {i lo hi : Nat} {ao : AOper} (hio : ops[i]? = some co) (hc : ckOper P n ops.toList co lo hi = some ao) {t : AFr} {vs : List AV} {b : Blk} {mk : Nat → AV}
    (hw : wantedA ao.g t = some true) (he : evalAll t ao.xs = some vs) (hk : ao.k.cls = .make) (ha : aA ao.k vs = some (b, mk))
    {ρ : LMap} {w : World} {a : Act} {Q : Exit → Act → World → Prop} (hr : FR n ρ t a.tmps) {K : Act → World → Prop}
    (hK : ∀ v' o lim cells, b = .row cells false → RowAt ρ (w.alloc o) ⟨w.heap.size, 0, lim⟩ cells false → (∀ (ρ' : LMap) (id : Nat), ρ' id = some ⟨w.heap.size, 0, lim⟩ → VR ρ' (mk id) v') → K (a.put co.dst v') (w.alloc o)) : wpOp P ops Q i K a w := by
  obtain ⟨h1, h2, h3, _, _, xs, h4, h5⟩ := ckOper_spec hc
  unfold wpOp
  simp only [hio]
  rw [wanted_ck h3 hw hr]
  simp only [if_true]
  refine .inl ?_
  have hv := eval_ck hr _ _ _ h5 he
  unfold Oper.wp
  obtain ⟨cells, o, lim, v', g1, g2, g3, g4⟩ := (make_sound (w := w) h4 hk ha hv).ex
  rw [g2, Oper.upon_value]
  exact hK _ _ _ _ g1 g3 g4

def on (listed : Array Bool) (i : Nat) : Prop := listed.getD i false = true

theorem on_set {listed : Array Bool} {i j : Nat} (hi : i < listed.size) : on (listed.setIfInBounds i true) j ↔ j = i ∨ on listed j := by
  unfold on
  by_cases h : i = j
  · subst h; simp [hi]
  · rw [getD_set_ne false h]
    constructor
    · exact .inr
    · rintro (e | e)
      · exact absurd e.symm h
      · exact e

/-- The temporaries, as far as the region has come. -/
structure Tmps (n : Nat) (l : List AOper) (T : Nat → AFr) (V : Nat → AV) (listed : Array Bool) (ρ : LMap) (tmps : Array Value) : Prop where
  size : n ≤ tmps.size
  done : ∀ (i : Nat) (o : AOper) (x : Nat), l[i]? = some o → on listed i → o.dst = some x → (∀ (j : Nat) (o' : AOper), i < j → l[j]? = some o' → on listed j → o'.dst ≠ some x) → VR ρ (V i) (tmps.getD x undef)
  old : ∀ (x : Nat) (v : AV), (∀ (j : Nat) (o' : AOper), l[j]? = some o' → on listed j → o'.dst ≠ some x) → (T 0).get x = some v → VR ρ v (tmps.getD x undef)

structure Inv (P : Program) (n : Nat) (ops : Array Oper) (l : List AOper) (B : Nat → Nat) (T : Nat → AFr) (M : Nat → Mem) (V : Nat → AV) (ρ0 : LMap) (w0 : World) (listed : Array Bool) (a : Act) (w : World) : Prop where
  size : listed.size = l.length
  defers : a.defers = []
  closed : ∀ j x, on listed j → (B j).testBit x = true → on listed x
  ex : ∃ ρ p, p ≤ l.length ∧ (p = l.length ∨ loudAt l p) ∧ (∀ x, loudAt l x → (on listed x ↔ x < p)) ∧ SimF (memAt l T M p) ρ w ∧
    (∀ i, i < l.length → ¬ on listed i → ∀ b, (M i).length ≤ b → b < (M (i + 1)).length → ρ b = none) ∧
    Part (M 0) (M l.length).length ρ0 ρ w0 w ∧ Tmps n l T V listed ρ a.tmps

theorem clash_l {a o : AOper} {x : Nat} (h : a.dst = some x) (k : x ∈ o.names) : clash a o = true := by
  simp [clash, h, k]
theorem clash_r {a o : AOper} {x : Nat} (h : o.dst = some x) (k : x ∈ a.names) : clash a o = true := by
  simp [clash, h, k]
theorem clash_loud {a o : AOper} (h : a.k.loud = true) (k : o.k.loud = true) : clash a o = true := by
  simp [clash, h, k]

section
variable (S : Sched P n ops l B) (R : Run P l 0 [] [] T M V)
include S R

/-- What an operation that is ready may see of the temporaries. -/
theorem Tmps.frame {listed : Array Bool} {ρ : LMap} {tmps : Array Value} (h : Tmps n l T V listed ρ tmps) (hcl : ∀ j x, on listed j → (B j).testBit x = true → on listed x) {i : Nat} {o : AOper} (ho : l[i]? = some o) (hn : ¬ on listed i)
    (hb : ∀ x, (B i).testBit x = true → on listed x) : FR n ρ ((T i).only o.names) tmps := by
  refine ⟨h.size, fun x v hx => ?_⟩
  rw [AFr.get_only] at hx
  split at hx
  · rename_i hmem
    have hmem : x ∈ o.names := by simpa using hmem
    have later : ∀ (j : Nat) (o' : AOper), i < j → l[j]? = some o' → on listed j → o'.dst ≠ some x := by
      intro j o' h1 h2 h3 h4
      exact hn (hcl j i h3 (S.ord i j o o' h1 ho h2 (clash_r h4 hmem)))
    rcases R.frame i (Nat.le_of_lt (lt_of_get ho)) hx with ⟨j, oj, g1, g2, g3, rfl, g5⟩ | ⟨g1, g2⟩
    · refine h.done j oj x g2 (hb j (S.ord j i oj o g1 g2 ho (clash_l g3 hmem))) g3 fun j' o' k1 k2 k3 => ?_
      rcases Nat.lt_trichotomy j' i with c | c | c
      · exact g5 j' o' k1 c k2
      · subst c; exact absurd k3 hn
      · exact later j' o' c k2 k3
    · refine h.old x v (fun j' o' k2 k3 => ?_) g2
      rcases Nat.lt_trichotomy j' i with c | c | c
      · exact g1 j' o' c k2
      · subst c; exact absurd k3 hn
      · exact later j' o' c k2 k3
  · cases hx

omit R in
theorem Tmps.put {listed : Array Bool} {ρ ρ' : LMap} {a : Act} (h : Tmps n l T V listed ρ a.tmps) (hs : Sub ρ ρ') (hcl : ∀ j x, on listed j → (B j).testBit x = true → on listed x) {i : Nat} {o : AOper} (ho : l[i]? = some o) (hn : ¬ on listed i)
    (hi : i < listed.size) (hd : ∀ d, o.dst = some d → d < n) {v' : Value} (hv : VR ρ' (V i) v') : Tmps n l T V (listed.setIfInBounds i true) ρ' (a.put o.dst v').tmps := by
  have hsz := h.size
  have keep : ∀ x, o.dst ≠ some x → (a.put o.dst v').tmps.getD x undef = a.tmps.getD x undef := by
    intro x hx
    cases hdd : o.dst with
    | none => rfl
    | some d =>
      simp only [Act.put]
      rw [getD_set _ _ _ _ (by have := hd d hdd; omega), if_neg (fun e => hx (by rw [hdd, e]))]
  refine ⟨?_, fun j oj x g1 g2 g3 g4 => ?_, fun x v g1 g2 => ?_⟩
  · cases hdd : o.dst <;> simp [Act.put] <;> exact hsz
  · by_cases e : j = i
    · subst e
      rw [ho] at g1; cases g1
      rw [g3]
      simp only [Act.put]
      rw [getD_set _ _ _ _ (by have := hd x g3; omega), if_pos rfl]
      exact hv
    · have hon : on listed j := ((on_set hi).1 g2).resolve_left e
      have hne : o.dst ≠ some x := by
        intro hox
        rcases Nat.lt_or_ge j i with c | c
        · exact g4 i o c ho ((on_set hi).2 (.inl rfl)) hox
        · exact hn (hcl j i hon (S.ord i j o oj (by omega) ho g1 (clash_r g3 (AOper.names_dst hox))))
      rw [keep x hne]
      exact (h.done j oj x g1 hon g3 fun j' o' k1 k2 k3 => g4 j' o' k1 k2 ((on_set hi).2 (.inr k3))).mono hs
  · have hne : o.dst ≠ some x := g1 i o ho ((on_set hi).2 (.inl rfl))
    rw [keep x hne]
    exact (h.old x v (fun j' o' k2 k3 => g1 j' o' k2 ((on_set hi).2 (.inr k3))) g2).mono hs

omit S in
/-- A read tells the same wherever it may come. -/
theorem Run.read_at {i p : Nat} {o : AOper} {vs : List AV} (ho : l[i]? = some o) (hc : o.k.cls = .read) (hw : wantedA o.g (T i) = some true) (he : evalAll (T i) o.xs = some vs) (ha : aR o.k vs (M i) = some (V i)) (hp : p ≤ l.length) (hpl : p = l.length ∨ loudAt l p)
    (hlo : o.lo ≤ loudIn l p) (hhi : loudIn l p ≤ o.hi) : aR o.k vs (M p) = some (V i) := by
  have hi := lt_of_get ho
  have hnl : ¬ loudAt l i := by
    rintro ⟨o', h1, h2⟩
    rw [ho] at h1; cases h1
    exact (AK.loud_cls h2).1 hc
  by_cases hip : i < p
  · rcases last_loud l i p (by omega) with g | ⟨r, g1, g2, g3, g4⟩
    · obtain ⟨e, he⟩ := R.quiets (i := i) p (by omega) hp g
      rw [he]; exact aR_ext ha
    · have hri : i < r := by
        rcases Nat.lt_or_ge i r with c | c
        · exact c
        · obtain rfl : i = r := by omega
          exact absurd g3 hnl
      obtain ⟨x, hx, hxl⟩ := g3
      have h1 := loudIn_none (l := l) (a := r + 1) p (by omega) hp (fun y h1 h2 => g4 y (by omega) h2)
      rw [loudIn_succ hx, hxl] at h1
      simp only [if_true] at h1
      have := R.readOn i o vs ho hc hw he r x hx hxl hri (by omega)
      obtain ⟨e, he⟩ := R.quiets (i := r + 1) p (by omega) hp (fun y h1 h2 => g4 y (by omega) h2)
      rw [he]; exact aR_ext this
  · rcases hpl with rfl | hpl
    · omega
    · have hne : p ≠ i := fun e => hnl (e ▸ hpl)
      obtain ⟨x, hx, hxl⟩ := hpl
      exact R.readBack i o vs ho hc hw he p x hx hxl (by omega) (by omega)

omit S in
/-- What an operation makes holds what it held at its making, wherever it may come. -/
theorem Run.make_at {i p : Nat} {o : AOper} {b : Blk} (ho : l[i]? = some o) (hm : Makes l T M i b) (hp : p ≤ l.length)
    (hhi : loudIn l p ≤ o.hi) : memAt l T M p (M i).length = some b := by
  have hi := lt_of_get ho
  obtain ⟨o', h1, hc, hw, he⟩ := hm
  rw [ho] at h1; cases h1
  have hnl : ¬ loudAt l i := by
    rintro ⟨o', h1, h2⟩
    rw [ho] at h1; cases h1
    exact (AK.loud_cls h2).2.1 hc
  unfold memAt
  by_cases hip : i < p
  · have hlt : (M i).length < (M p).length := by
      have := (R.asteps (i := i + 1) p (by omega) hp).len
      rw [he] at this; simp at this; omega
    rw [if_pos hlt]
    rcases last_loud l i p (by omega) with g | ⟨r, g1, g2, g3, g4⟩
    · obtain ⟨e, he2⟩ := R.quiets (i := i + 1) p (by omega) hp (fun x h1 h2 => g x (by omega) h2)
      rw [he2, List.getElem?_append_left (by rw [he]; simp), he, get_append_self]
    · have hri : i < r := by
        rcases Nat.lt_or_ge i r with c | c
        · exact c
        · obtain rfl : i = r := by omega
          exact absurd g3 hnl
      obtain ⟨x, hx, hxl⟩ := g3
      have h1 := loudIn_none (l := l) (a := r + 1) p (by omega) hp (fun y h1 h2 => g4 y (by omega) h2)
      rw [loudIn_succ hx, hxl] at h1
      simp only [if_true] at h1
      have := R.makeOn i o b ho hc hw he r x hx hxl hri (by omega)
      obtain ⟨e, he2⟩ := R.quiets (i := r + 1) p (by omega) hp (fun y h1 h2 => g4 y (by omega) h2)
      rw [he2, List.getElem?_append_left (lt_of_get this), this]
  · have hle : ¬ (M i).length < (M p).length := by
      have := (R.asteps (i := p) i (by omega) (by omega)).len
      omega
    rw [if_neg hle]
    exact initB_of R ⟨o, ho, hc, hw, he⟩


theorem Inv.step {ρ0 : LMap} {w0 : World} {listed : Array Bool} {a : Act} {w : World} (h : Inv P n ops l B T M V ρ0 w0 listed a w) {i : Nat} (hi : i ∈ Region.ready .any ops listed) {Q : Exit → Act → World → Prop} :
    wpOp P ops Q i (fun a' w' => Inv P n ops l B T M V ρ0 w0 (listed.setIfInBounds i true) a' w') a w := by
  obtain ⟨hun, co, hco, hafter⟩ := mem_ready.1 hi
  have hil : i < l.length := by rw [S.len]; exact (Array.getElem?_eq_some_iff.1 hco).1
  have hils : i < listed.size := by rw [h.size]; exact hil
  have hn : ¬ on listed i := by
    unfold on
    simp only [Array.getD_eq_getD_getElem?, hils, Array.getElem?_eq_getElem, Option.getD_some] at hun ⊢
    rw [hun]; simp
  have ho : l[i]? = some l[i] := by simp [hil]
  obtain ⟨co', hco', hck⟩ := S.op i l[i] ho
  rw [hco] at hco'; cases hco'
  generalize hoe : l[i] = o at *
  obtain ⟨hdst, hdn, _⟩ := ckOper_spec hck
  have hb : ∀ x, (B i).testBit x = true → on listed x := by
    intro x hx
    obtain ⟨e, he1, he2, he3⟩ := S.bef i co hco x hx
    have := hafter e he1 he2
    rcases he3 with rfl | he3
    · exact this
    · exact h.closed e.on x this he3
  have hnb : ∀ j, on listed j → (B j).testBit i = false := by
    intro j hj
    cases hc : (B j).testBit i with
    | false => rfl
    | true => exact absurd (h.closed j i hj hc) hn
  obtain ⟨ρ, p, hp, hpl, hlou, hsim, hreal, hpart, htm⟩ := h.ex
  have hfr := Tmps.frame S R htm h.closed ho hn hb
  have hclosed' : ∀ j x, on (listed.setIfInBounds i true) j → (B j).testBit x = true → on (listed.setIfInBounds i true) x := by
    intro j x hj hx
    rw [on_set hils] at hj ⊢
    rcases hj with rfl | hj
    · exact .inr (hb x hx)
    · exact .inr (h.closed j x hj hx)
  have hdef : ∀ v' : Value, (a.put co.dst v').defers = [] := by
    intro v'
    cases hdd : co.dst <;> simp [Act.put, h.defers]
  have hstep := (R.step i o ho).1
  have hsimP : Sim (M p) ρ w := (hsim.transfer fun b L k _ hm _ => by
    unfold memAt
    rw [if_pos (lt_of_get hm)]; exact hm).to
  have hlo : o.lo ≤ loudIn l p := S.lo i o ho p fun q x hq hx hbq => (hlou q ⟨x, hq, hx⟩).1 (hb q hbq)
  have hhi : loudIn l p ≤ o.hi := S.hi i o ho p fun q x hq hx hqp => hnb q ((hlou q ⟨x, hq, hx⟩).2 hqp)
  have hdn' : ∀ d, o.dst = some d → d < n := fun d e => hdn d (by rw [← hdst]; exact e)
  -- the end of a quiet operation
  have quietEnd : ¬ loudAt l i → ∀ v', VR ρ (V i) v' → Inv P n ops l B T M V ρ0 w0 (listed.setIfInBounds i true) (a.put co.dst v') w := by
    intro hnl v' hv
    refine ⟨by simp [h.size], hdef v', hclosed', ρ, p, hp, hpl, fun x hx => ?_, hsim, fun j hj hnj => hreal j hj (fun hon => hnj ((on_set hils).2 (.inr hon))), hpart, ?_⟩
    · rw [on_set hils]
      constructor
      · rintro (rfl | hon)
        · exact absurd hx hnl
        · exact (hlou x hx).1 hon
      · exact fun hxp => .inr ((hlou x hx).2 hxp)
    · have := Tmps.put (l := l) S htm (.refl ρ) h.closed ho hn hils hdn' hv
      rw [hdst] at this; exact this
  by_cases hloud : o.k.loud = true
  · -- a loud operation: it is the next one
    have hli : loudAt l i := ⟨o, ho, hloud⟩
    have hpi : p = i := by
      have h1 : ¬ i < p := fun hip => hn ((hlou i hli).2 hip)
      rcases hpl with rfl | hpl
      · omega
      · rcases Nat.lt_or_ge p i with c | c
        · obtain ⟨x, hx, hxl⟩ := hpl
          have := hb p (S.ord p i x o c hx ho (clash_loud hxl hloud))
          have := (hlou p ⟨x, hx, hxl⟩).1 this
          omega
        · omega
    subst hpi
    have hlen := hstep.astep.len
    have hfresh : Fresh (M p) (M (p + 1)) ρ := fun b h1 h2 => hreal p hil hn b h1 h2
    have hlocal : Local P o ((T p).only o.names) (M p) (V p) (M (p + 1)) := by
      generalize hMe : M (p + 1) = m' at hstep
      generalize hVe : V p = v at hstep
      cases hstep with
      | no hw => exact .no (by rw [wantedA_only]; exact hw)
      | yes hw he hop => exact .yes (by rw [wantedA_only]; exact hw) (by rw [evalAll_only _ fun n hn => AOper.names_xs hn]; exact he) hop
    refine local_exec hco hck hlocal hsimP hfresh hfr fun v' w' ρ' hv hs' hst => ?_
    obtain ⟨p', q1, q2, q3, q4⟩ := next_loud l (l.length - (p + 1)) (p + 1) rfl (by omega)
    obtain ⟨e, he⟩ := R.quiets (i := p + 1) p' q1 q2 q4
    have hN := (R.asteps (i := p + 1) l.length (by omega) (Nat.le_refl _)).len
    refine ⟨by simp [h.size], hdef v', hclosed', ρ', p', q2, q3, fun x hx => ?_, ?_, fun j hj hnj b h1 h2 => ?_, ?_, ?_⟩
    · rw [on_set hils]
      constructor
      · rintro (rfl | hon)
        · omega
        · have := (hlou x hx).1 hon; omega
      · intro hxp
        by_cases c : x < p + 1
        · by_cases c2 : x = p
          · exact .inl c2
          · exact .inr ((hlou x hx).2 (by omega))
        · exact absurd hx (q4 x (by omega) hxp)
    · have haft := hsim.after (M1 := M p) (M2 := M (p + 1)) (fun b hb => by unfold memAt; rw [if_pos hb]) hst hs' hfresh
      refine haft.transfer fun b L k hL hm hkl => ?_
      unfold memAt at hm ⊢
      by_cases c1 : b < (M (p + 1)).length
      · rw [if_pos c1]
        have : b < (M p').length := by rw [he]; simp; omega
        rw [if_pos this, he, List.getElem?_append_left c1] at hm
        exact hm
      · rw [if_neg c1, if_neg (by omega)]
        by_cases c2 : b < (M p').length
        · rw [if_pos c2, quiet_init R (i := p + 1) p' q1 q2 q4 b (by omega) c2] at hm
          exact hm
        · rw [if_neg c2] at hm
          exact hm
    · have hne : j ≠ p := fun e => hnj ((on_set hils).2 (.inl e))
      rw [hst.old b ?_]
      · exact hreal j hj (fun hon => hnj ((on_set hils).2 (.inr hon))) b h1 h2
      · rcases Nat.lt_or_ge j p with c | c
        · have := (R.asteps (i := j + 1) p (by omega) (by omega)).len
          omega
        · have := (R.asteps (i := p + 1) j (by omega) (by omega)).len
          omega
    · exact hpart.trans (R.asteps (i := 0) p (by omega) (by omega)) hst hN
    · have := Tmps.put (l := l) S htm (hst.sub hfresh) h.closed ho hn hils hdn' hv
      rw [hdst] at this; exact this
  · have hnl : ¬ loudAt l i := by
      rintro ⟨x, h1, h2⟩
      rw [ho] at h1; cases h1
      exact hloud h2
    generalize hMe : M (i + 1) = m' at hstep
    generalize hVe : V i = v at hstep
    cases hstep with
    | no hw =>
      refine no_exec hco hck (t := (T i).only o.names) (by rw [wantedA_only]; exact hw) hfr ?_
      exact quietEnd hnl undef (by rw [hVe]; exact .mk_tup' (l := []) (cs := #[]) .nil)
    | yes hw he hop =>
      rename_i vs
      have hw' : wantedA o.g ((T i).only o.names) = some true := by rw [wantedA_only]; exact hw
      have he' : evalAll ((T i).only o.names) o.xs = some vs := by rw [evalAll_only _ fun n hn => AOper.names_xs hn]; exact he
      generalize hke : o.k = k at hop
      cases hop with
      | pure hk ha =>
        refine quiet_exec hco hck hw' he' (.inl ⟨by rw [hke]; exact hk, by rw [hke]; exact ha⟩) hsimP hfr fun v' hv => ?_
        exact quietEnd hnl v' (by rw [hVe]; exact hv)
      | read hk ha =>
        have hra := Run.read_at R ho (by rw [hke]; exact hk) hw he (by rw [hke, hVe]; exact ha) hp hpl hlo hhi
        refine quiet_exec hco hck hw' he' (.inr ⟨by rw [hke]; exact hk, hra⟩) hsimP hfr fun v' hv => quietEnd hnl v' hv
      | make hk ha =>
        rename_i b mk
        have hmk : Makes l T M i b := ⟨o, ho, by rw [hke]; exact hk, hw, hMe⟩
        have hat := Run.make_at R ho hmk hp hhi
        have hNl : (M i).length < (M l.length).length := by
          have := (R.asteps (i := i + 1) l.length (by omega) (Nat.le_refl _)).len
          rw [hMe] at this; simp at this; omega
        have h0l : (M 0).length ≤ (M i).length := (R.asteps (i := 0) i (by omega) (by omega)).len
        have hrid : ρ (M i).length = none := hreal i hil hn _ (Nat.le_refl _) (by rw [hMe]; simp)
        refine make_exec hco hck hw' he' (by rw [hke]; exact hk) (by rw [hke]; exact ha) hfr fun v' ob lim cells hbe hrow hvr => ?_
        subst hbe
        have hvv : VR (upd ρ (M i).length ⟨w.heap.size, 0, lim⟩) (V i) v' := by rw [hVe]; exact hvr _ _ (upd_same _ _ _)
        refine ⟨by simp [h.size], hdef v', hclosed', upd ρ (M i).length ⟨w.heap.size, 0, lim⟩, p, hp, hpl, fun x hx => ?_, hsim.put_new ob hrid hat hrow, fun j hj hnj b h1 h2 => ?_, hpart.push h0l hNl ob, ?_⟩
        · rw [on_set hils]
          constructor
          · rintro (rfl | hon)
            · exact absurd hx hnl
            · exact (hlou x hx).1 hon
          · exact fun hxp => .inr ((hlou x hx).2 hxp)
        · have hne : j ≠ i := fun e => hnj ((on_set hils).2 (.inl e))
          rw [upd_ne]
          · exact hreal j hj (fun hon => hnj ((on_set hils).2 (.inr hon))) b h1 h2
          · rcases Nat.lt_or_ge j i with c | c
            · have := (R.asteps (i := j + 1) i (by omega) (by omega)).len
              omega
            · have := (R.asteps (i := i + 1) j (by omega) (by omega)).len
              rw [hMe] at this; simp at this
              omega
        · have := Tmps.put (l := l) S htm (upd_sub _ hrid) h.closed ho hn hils hdn' hvv
          rw [hdst] at this; exact this
      | write hk ha => exact absurd (by rw [hke]; simp [AK.loud, hk]) hloud
      | call he => exact absurd (by rw [hke]; simp [AK.loud, AK.cls]) hloud
      | callv he => exact absurd (by rw [hke]; simp [AK.loud, AK.cls]) hloud

omit R in
/-- While not all is done, something is ready. -/
theorem ready_some {listed : Array Bool} (hs : listed.size = l.length) (h : ∃ i, i < l.length ∧ ¬ on listed i) : ∃ i, i ∈ Region.ready .any ops listed := by
  have hex : ∃ i, i < l.length ∧ ¬ on listed i ∧ ∀ j, j < i → on listed j := by
    obtain ⟨i, h1, h2⟩ := h
    induction i using Nat.strongRecOn with
    | _ i ih =>
      by_cases hc : ∃ j, j < i ∧ ¬ on listed j
      · obtain ⟨j, hj, hnj⟩ := hc
        exact ih j hj (by omega) hnj
      · refine ⟨i, h1, h2, fun j hj => ?_⟩
        by_cases hj2 : on listed j
        · exact hj2
        · exact absurd ⟨j, hj, hj2⟩ hc
  obtain ⟨i, h1, h2, h3⟩ := hex
  have hco : ops[i]? = some (ops[i]'(by rw [← S.len]; exact h1)) := by simp [show i < ops.size by rw [← S.len]; exact h1]
  refine ⟨i, mem_ready.2 ⟨?_, _, hco, fun e he hb => ?_⟩⟩
  · unfold on at h2
    have hlt : i < listed.size := by rw [hs]; exact h1
    simp only [Array.getD_eq_getD_getElem?, hlt, Array.getElem?_eq_getElem, Option.getD_some] at h2 ⊢
    simpa using h2
  · exact h3 _ (S.edge i _ hco e he hb)

omit S R in
theorem filter_lt {α : Type} {p q : α → Bool} : ∀ (xs : List α), (∀ x ∈ xs, q x = true → p x = true) → (∃ x ∈ xs, p x = true ∧ q x = false) → (xs.filter q).length < (xs.filter p).length := by
  intro xs
  induction xs with
  | nil => rintro _ ⟨x, h, _⟩; cases h
  | cons y xs ih =>
    intro h1 h2
    have hle : (xs.filter q).length ≤ (xs.filter p).length := by
      clear ih h2
      induction xs with
      | nil => simp
      | cons z zs ihz =>
        have := ihz fun x hx => h1 x (by cases hx with | head => exact List.mem_cons_self | tail _ hx => exact List.mem_cons_of_mem _ (List.mem_cons_of_mem _ hx))
        have hz := h1 z (List.mem_cons_of_mem _ List.mem_cons_self)
        simp only [List.filter_cons]
        cases hqz : q z
        · simp only [Bool.false_eq_true, if_false]
          split
          · simp; omega
          · exact this
        · rw [hqz] at hz
          simp [hz rfl]; omega
    simp only [List.filter_cons]
    have hy := h1 y List.mem_cons_self
    by_cases hc : ∃ x ∈ xs, p x = true ∧ q x = false
    · have := ih (fun x hx => h1 x (List.mem_cons_of_mem _ hx)) hc
      cases hqy : q y
      · simp only [Bool.false_eq_true, if_false]
        split
        · simp; omega
        · exact this
      · rw [hqy] at hy
        simp [hy rfl]; omega
    · obtain ⟨x, hx, hpx, hqx⟩ := h2
      cases hx with
      | head => simp only [hpx, hqx, if_true, Bool.false_eq_true, if_false, List.length_cons]; omega
      | tail _ hx => exact absurd ⟨x, hx, hpx, hqx⟩ hc

/-- All orders. -/
theorem any_exec {ρ0 : LMap} {w0 : World} {Q : Exit → Act → World → Prop}
    (hQ : ∀ a w ρ, FR n ρ (T l.length) a.tmps → Sim (M l.length) ρ w → Step (M 0) (M l.length) ρ0 ρ w0 w → a.defers = [] → Q .normal a w) :
    ∀ (fuel : Nat) (listed : Array Bool) (a : Act) (w : World), ((List.range l.length).filter fun i => !listed.getD i false).length ≤ fuel → Inv P n ops l B T M V ρ0 w0 listed a w → wpAny P .any ops Q fuel listed a w := by
  have finish : ∀ (listed : Array Bool) (a : Act) (w : World), (∀ i, i < l.length → on listed i) → Inv P n ops l B T M V ρ0 w0 listed a w → Q .normal a w := by
    intro listed a w hall h
    obtain ⟨ρ, p, hp, hpl, hlou, hsim, hreal, hpart, htm⟩ := h.ex
    have hpN : p = l.length := by
      rcases hpl with e | hpl
      · exact e
      · obtain ⟨x, hx, hxl⟩ := hpl
        have := (hlou p ⟨x, hx, hxl⟩).1 (hall p (lt_of_get hx))
        omega
    subst hpN
    refine hQ a w ρ ⟨htm.size, fun x v hx => ?_⟩ ?_ ?_ h.defers
    · rcases R.frame l.length (Nat.le_refl _) hx with ⟨j, oj, g1, g2, g3, rfl, g5⟩ | ⟨g1, g2⟩
      · exact htm.done j oj x g2 (hall j g1) g3 fun j' o' k1 k2 _ => g5 j' o' k1 (lt_of_get k2) k2
      · exact htm.old x v (fun j' o' k2 _ => g1 j' o' (lt_of_get k2) k2) g2
    · exact (hsim.transfer fun b L k _ hm _ => by
        unfold memAt
        rw [if_pos (lt_of_get hm)]; exact hm).to
    · exact ⟨R.asteps (i := 0) l.length (by omega) (Nat.le_refl _), hpart.old, hpart.new, hpart.os, hpart.tape, hpart.output, hpart.size, hpart.frame⟩
  have alldone : ∀ (listed : Array Bool), listed.size = l.length → Region.ready .any ops listed = [] → ∀ i, i < l.length → on listed i := by
    intro listed hs hr i hi
    by_cases hc : on listed i
    · exact hc
    · obtain ⟨j, hj⟩ := ready_some S hs ⟨i, hi, hc⟩
      rw [hr] at hj
      cases hj
  intro fuel
  induction fuel with
  | zero =>
    intro listed a w hf h
    have hall : ∀ i, i < l.length → on listed i := by
      intro i hi
      by_cases hc : on listed i
      · exact hc
      · exfalso
        have hm : i ∈ (List.range l.length).filter fun i => !listed.getD i false := by
          rw [List.mem_filter]
          refine ⟨List.mem_range.2 hi, ?_⟩
          unfold on at hc
          simpa using hc
        have := List.length_pos_of_mem hm
        omega
    refine ⟨?_, finish listed a w hall h⟩
    cases hr : Region.ready .any ops listed with
    | nil => rfl
    | cons j js =>
      exfalso
      have hj : j ∈ Region.ready .any ops listed := by rw [hr]; exact List.mem_cons_self
      obtain ⟨h1, co, h2, _⟩ := mem_ready.1 hj
      have hjl : j < l.length := by rw [S.len]; exact (Array.getElem?_eq_some_iff.1 h2).1
      have := hall j hjl
      unfold on at this
      have hlt : j < listed.size := by rw [h.size]; exact hjl
      simp only [Array.getD_eq_getD_getElem?, hlt, Array.getElem?_eq_getElem, Option.getD_some] at h1 this
      rw [h1] at this; cases this
  | succ fuel ih =>
    intro listed a w hf h
    refine ⟨fun hr => finish listed a w (alldone listed h.size hr) h, fun i hi => ?_⟩
    refine wpOp_mono (fun a' w' hinv => ih _ a' w' ?_ hinv) (Inv.step S R h hi)
    obtain ⟨hun, co, hco, _⟩ := mem_ready.1 hi
    have hil : i < l.length := by rw [S.len]; exact (Array.getElem?_eq_some_iff.1 hco).1
    have hils : i < listed.size := by rw [h.size]; exact hil
    have hlt := filter_lt (p := fun i => !listed.getD i false) (q := fun j => !(listed.setIfInBounds i true).getD j false) (List.range l.length) (fun j hj hq => by
        by_cases e : i = j
        · subst e
          simp [hils] at hq
        · rw [getD_set_ne false e] at hq; exact hq) ⟨i, List.mem_range.2 hil, by
          simp only [Array.getD_eq_getD_getElem?, hils, Array.getElem?_eq_getElem, Option.getD_some] at hun ⊢
          rw [hun]; rfl, by simp [hils]⟩
    omega
end
end
end Go.Adm
