/- Comparing structs and arrays cell by cell. -/
import Derived.Test.YthdkclkiegkabaaAdmC
import Derived.Laws.StructEq
namespace Go.Adm

def CK.okV : CK → Value → Value → Option Bool
  | .b, .bool x, .bool y => some (x == y)
  | .i, .int k x, .int k' y => if k = k' then some (x == y) else none
  | .s, .string x, .string y => some (x == y)
  | _, _, _ => none
def eqV : List CK → List Value → List Value → Option Bool
  | [], [], [] => some true
  | c :: ks, a :: as, b :: bs => (c.okV a b).bind fun x => (eqV ks as bs).map fun y => x && y
  | _, _, _ => none

theorem eqV_append : ∀ (k1 k2 : List CK) (xs ys : List Value) (r : Bool), eqV (k1 ++ k2) xs ys = some r →
    ∃ r1 r2, eqV k1 (xs.take k1.length) (ys.take k1.length) = some r1 ∧ eqV k2 (xs.drop k1.length) (ys.drop k1.length) = some r2 ∧ r = (r1 && r2) := by
  intro k1
  induction k1 with
  | nil => intro k2 xs ys r h; exact ⟨true, r, by simp [eqV], by simpa using h, by simp⟩
  | cons c ks ih =>
    intro k2 xs ys r h
    cases xs with
    | nil => simp [eqV] at h
    | cons x xs =>
      cases ys with
      | nil => simp [eqV] at h
      | cons y ys =>
        simp only [List.cons_append, eqV] at h
        cases hc : c.okV x y with
        | none => simp [hc] at h
        | some u =>
          simp only [hc, Option.bind_some] at h
          cases he : eqV (ks ++ k2) xs ys with
          | none => simp [he] at h
          | some v =>
            simp only [he, Option.map_some, Option.some.injEq] at h
            obtain ⟨r1, r2, h1, h2, h3⟩ := ih k2 xs ys v he
            exact ⟨u && r1, r2, by simp [eqV, hc, h1], by simpa using h2, by rw [← h, h3, Bool.and_assoc]⟩

theorem eqV_length : ∀ (ks : List CK) (xs ys : List Value) (r : Bool), eqV ks xs ys = some r → xs.length = ks.length ∧ ys.length = ks.length := by
  intro ks
  induction ks with
  | nil => intro xs ys r h; cases xs <;> cases ys <;> simp_all [eqV]
  | cons c ks ih =>
    intro xs ys r h
    cases xs with
    | nil => simp [eqV] at h
    | cons x xs =>
      cases ys with
      | nil => simp [eqV] at h
      | cons y ys =>
        simp only [eqV] at h
        cases hc : c.okV x y with
        | none => simp [hc] at h
        | some u =>
          cases he : eqV ks xs ys with
          | none => simp [hc, he] at h
          | some v => have := ih xs ys v he; simp; omega

/-- The value of a type whose cells are these. -/
def valT (P : Program) (t : TypeId) (xs : List Value) : Value :=
  match aggD P t with
  | some true => .agg xs.toArray
  | _ => xs.headD undef

section
variable {P : Program}

theorem run_sizeOf {t : TypeId} {n : Nat} (h : sizeD P t = some n) (w : World) : (sizeOf t).run P w = .ok n w := by
  unfold sizeD at h
  cases hi : P.info? t with
  | none => simp [hi] at h
  | some i =>
    simp only [hi, Option.map_some, Option.some.injEq] at h
    simp [sizeOf, typeInfo, hi, h]

theorem run_isAgg {t : TypeId} {b : Bool} (h : aggD P t = some b) (w : World) : (isAgg t).run P w = .ok b w := by
  unfold aggD at h
  unfold isAgg
  cases hu : P.underlying t with
  | none => simp [hu] at h
  | some d =>
    simp only [Sem.run_bind, run_underlying hu, Result.andThen_ok]
    cases d <;> simp_all

theorem run_part {t : TypeId} {n : Nat} {g : Bool} (hs : sizeD P t = some n) (hg : aggD P t = some g) (h1 : g = true ∨ n = 1) (cs : Array Value) (off : Nat)
    (ho : off + n ≤ cs.size) (w : World) : (part t cs off).run P w = .ok (valT P t ((cs.toList.drop off).take n)) w := by
  unfold part valT
  simp only [Sem.run_bind, run_isAgg hg, Result.andThen_ok, hg]
  cases g with
  | true =>
    simp only [if_true, Sem.run_bind, run_sizeOf hs, Result.andThen_ok, Sem.run_pure]
    congr 2
    apply Array.ext'
    simp [List.take_drop]
  | false =>
    obtain rfl : n = 1 := by simpa using h1
    have hlt : off < cs.size := by omega
    have e : cs.toList.drop off = cs[off] :: cs.toList.drop (off + 1) := by
      rw [List.drop_eq_getElem_cons (by simpa using hlt)]; simp
    simp [hlt, e]

theorem plainD_agg {d : Nat} {t : TypeId} {ks : List CK} (h : plainD P d t = some ks) : ∃ g, aggD P t = some g ∧ (g = true ∨ ks.length = 1) := by
  cases d with
  | zero => simp [plainD] at h
  | succ d =>
    unfold plainD at h
    unfold aggD
    cases hu : P.underlying t with
    | none => simp [hu] at h
    | some x =>
      cases x <;> simp [hu] at h ⊢
      all_goals (subst h; rfl)

theorem run_eqArr {E : Value → Value → Sem Bool} {e : TypeId} {ks : List CK} (hs : sizeD P e = some ks.length) {g : Bool} (hg : aggD P e = some g)
    (h1 : g = true ∨ ks.length = 1) (h0 : 0 < ks.length)
    (ih : ∀ xs ys r w, eqV ks xs ys = some r → (E (valT P e xs) (valT P e ys)).run P w = .ok r w) (xs ys : Array Value) (w : World) :
    ∀ (m s : Nat) (r : Bool), eqV (List.replicate m ks).flatten (xs.toList.drop (s * ks.length)) (ys.toList.drop (s * ks.length)) = some r →
    ((forIn (List.range' s m 1) ((none, ()) : Option Bool × Unit) fun i _ => do
      let a ← part e xs (i * ks.length)
      let b ← part e ys (i * ks.length)
      let c ← E a b
      if (!c) = true then pure (ForInStep.done (some false, ())) else pure (ForInStep.yield (none, ()))).run P w)
      = .ok (if r then none else some false, ()) w := by
  intro m
  induction m with
  | zero => intro s r h; cases hx : xs.toList.drop (s * ks.length) <;> cases hy : ys.toList.drop (s * ks.length) <;> simp_all [eqV]
  | succ m ihm =>
    intro s r h
    rw [List.replicate_succ, List.flatten_cons] at h
    obtain ⟨r1, r2, g1, g2, g3⟩ := eqV_append _ _ _ _ _ h
    have hl := eqV_length _ _ _ _ g1
    simp only [List.length_take, List.length_drop, Array.length_toList] at hl
    rw [List.drop_drop, List.drop_drop] at g2
    rw [List.range'_succ, List.forIn_cons]
    have hx : s * ks.length + ks.length ≤ xs.size := by omega
    have hy : s * ks.length + ks.length ≤ ys.size := by omega
    simp only [Sem.run_bind, run_part hs hg h1 xs _ hx, run_part hs hg h1 ys _ hy, Result.andThen_ok, ih _ _ _ _ g1]
    cases r1 with
    | false => simp [g3]
    | true =>
      have g2' : eqV (List.replicate m ks).flatten (xs.toList.drop ((s + 1) * ks.length)) (ys.toList.drop ((s + 1) * ks.length)) = some r2 := by
        rw [show (s + 1) * ks.length = s * ks.length + ks.length from by rw [Nat.add_mul, Nat.one_mul]]; exact g2
      have := ihm (s + 1) r2 g2'
      simp only [Bool.not_true, Bool.false_eq_true, if_false, Sem.run_pure, Result.andThen_ok, g3, Bool.true_and]
      exact this

theorem run_eqFs {d : Nat} {F : TypeId → Option (List CK)} (hF : ∀ t ks, F t = some ks → (∃ g, aggD P t = some g ∧ (g = true ∨ ks.length = 1)) ∧
    ∀ xs ys r w, eqV ks xs ys = some r → (Op.equalIn d t (valT P t xs) (valT P t ys)).run P w = .ok r w) (xs ys : Array Value) (w : World) :
    ∀ (fs : List Field) (off : Nat) (ks : List CK) (r : Bool), plainFs P F off fs = some ks → eqV ks (xs.toList.drop off) (ys.toList.drop off) = some r →
      (Op.eqFields d xs ys fs).run P w = .ok r w := by
  intro fs
  induction fs with
  | nil =>
    intro off ks r h e
    simp only [plainFs, Option.some.injEq] at h
    subst h
    cases hx : xs.toList.drop off <;> cases hy : ys.toList.drop off <;> simp_all [eqV, Op.eqFields]
  | cons f fs ih =>
    intro off ks r h e
    simp only [plainFs] at h
    cases hk : F f.type with
    | none => simp [hk] at h
    | some k1 =>
      simp only [hk, Option.bind_some] at h
      split at h
      · rename_i hc
        obtain ⟨c1, c2, c3⟩ := hc
        cases hr : plainFs P F (off + k1.length) fs with
        | none => simp [hr] at h
        | some k2 =>
          simp only [hr, Option.map_some, Option.some.injEq] at h
          subst h
          obtain ⟨r1, r2, g1, g2, g3⟩ := eqV_append _ _ _ _ _ e
          have hl := eqV_length _ _ _ _ g1
          simp only [List.length_take, List.length_drop, Array.length_toList] at hl
          rw [List.drop_drop, List.drop_drop] at g2
          obtain ⟨⟨g, hg, h1⟩, hE⟩ := hF _ _ hk
          unfold Op.eqFields
          rw [if_pos c2, c1]
          by_cases hz : k1.length = 0
          · have hgt : g = true := by
              rcases h1 with h1 | h1
              · exact h1
              · omega
            have hp : ∀ zs : Array Value, (part f.type zs off).run P w = .ok (valT P f.type ((zs.toList.drop off).take k1.length)) w := by
              intro zs
              unfold part valT
              simp only [Sem.run_bind, run_isAgg hg, Result.andThen_ok, hg, hgt, if_true, run_sizeOf c3, Sem.run_pure, hz]
              congr 2
              apply Array.ext'
              simp
            simp only [Sem.run_bind, hp, Result.andThen_ok, hE _ _ _ _ g1]
            cases r1 with
            | false => simp [g3]
            | true => simp only [Bool.not_true, Bool.false_eq_true, if_false, ih _ _ _ hr g2, g3, Bool.true_and]
          · have hx : off + k1.length ≤ xs.size := by omega
            have hy : off + k1.length ≤ ys.size := by omega
            simp only [Sem.run_bind, run_part c3 hg h1 xs _ hx, run_part c3 hg h1 ys _ hy, Result.andThen_ok, hE _ _ _ _ g1]
            cases r1 with
            | false => simp [g3]
            | true => simp only [Bool.not_true, Bool.false_eq_true, if_false, ih _ _ _ hr g2, g3, Bool.true_and]
      · cases h

theorem run_equalIn_plain : ∀ (d : Nat) (t : TypeId) (ks : List CK), plainD P d t = some ks → ∀ (D : Nat), d ≤ D → ∀ (xs ys : List Value) (r : Bool) (w : World),
    eqV ks xs ys = some r → (Op.equalIn D t (valT P t xs) (valT P t ys)).run P w = .ok r w := by
  intro d
  induction d with
  | zero => intro t ks h; simp [plainD] at h
  | succ d ih =>
    intro t ks h D hD xs ys r w e
    obtain ⟨D, rfl⟩ : ∃ D', D = D' + 1 := ⟨D - 1, by omega⟩
    unfold plainD at h
    unfold valT aggD
    cases hu : P.underlying t with
    | none => simp [hu] at h
    | some x =>
      cases x <;> simp only [hu, Option.some.injEq, reduceCtorEq] at h ⊢
      case bool =>
        subst h
        have hl := eqV_length _ _ _ _ e
        match xs, ys, hl with
        | [x], [y], _ =>
          simp only [eqV, Option.bind_eq_some_iff, Option.map_some, Option.some.injEq] at e
          obtain ⟨u, hu1, rfl⟩ := e
          unfold CK.okV at hu1
          split at hu1 <;> simp_all
          subst hu1
          simp [run_equalIn_bool w D t _ _ hu]
      case int k =>
        subst h
        have hl := eqV_length _ _ _ _ e
        match xs, ys, hl with
        | [x], [y], _ =>
          simp only [eqV, Option.bind_eq_some_iff, Option.map_some, Option.some.injEq] at e
          obtain ⟨u, hu1, rfl⟩ := e
          unfold CK.okV at hu1
          split at hu1 <;> simp_all
          obtain ⟨rfl, rfl⟩ := hu1
          simp [run_equalIn_int w D t _ _ _ _ hu]
      case string =>
        subst h
        have hl := eqV_length _ _ _ _ e
        match xs, ys, hl with
        | [x], [y], _ =>
          simp only [eqV, Option.bind_eq_some_iff, Option.map_some, Option.some.injEq] at e
          obtain ⟨u, hu1, rfl⟩ := e
          unfold CK.okV at hu1
          split at hu1 <;> simp_all
          subst hu1
          simp [run_equalIn_string w D t _ _ hu, beq_toListBytes]
      case array n el =>
        cases hk : plainD P d el with
        | none => simp [hk] at h
        | some k1 =>
          simp only [hk, Option.bind_some] at h
          split at h
          · rename_i hc
            simp only [Option.some.injEq] at h
            subst h
            obtain ⟨g, hg, h1⟩ := plainD_agg hk
            have := run_eqArr (P := P) (E := fun a b => Op.equalIn D el a b) hc.1 hg h1 hc.2 (fun xs ys r w he => ih el k1 hk D (by omega) xs ys r w he) xs.toArray ys.toArray w n 0 r (by simpa using e)
            simp only [Op.equalIn, Sem.run_bind, run_underlying hu, Result.andThen_ok, run_sizeOf hc.1, Std.Legacy.Range.forIn_eq_forIn_range', Std.Legacy.Range.size]
            simp only [Nat.sub_zero, Nat.add_sub_cancel, Nat.div_one]
            rw [this]
            cases r <;> simp
          · cases h
      case struct fs =>
        split at h
        · cases h
        · rename_i hp
          have hfs : P.fieldsOf t = fs := by simp [Program.fieldsOf, hu]
          rw [run_equalIn_struct w D t _ _ (by rw [hfs]; exact hu) (by simpa using hp), hfs]
          exact run_eqFs (fun t ks hk => ⟨plainD_agg hk, fun xs ys r w he => ih t ks hk D (by omega) xs ys r w he⟩) xs.toArray ys.toArray w fs.toList 0 ks r h (by simpa using e)
end
end Go.Adm
