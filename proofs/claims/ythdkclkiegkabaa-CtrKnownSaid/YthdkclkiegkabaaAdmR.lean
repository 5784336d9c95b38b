/- Rules for walking through abstract code by rewriting: values first, what comes behind them later. -/
import Derived.Test.YthdkclkiegkabaaAdmQ
namespace Go.Adm

theorem someW_s {α : Type} (a : α) (K : α → Prop) : someW (some a) K = K a := rfl

/-! What comes behind is kept as data: no rewriting goes into it before its time. -/
section
variable (P : Program)
def seqK (b : ACode) (Q : Exit → AFr → Mem → Prop) : Exit → AFr → Mem → Prop := loopQ (fun t m => wpA P b t m Q) Q
def cutK (ks : List Nat) (Q : Exit → AFr → Mem → Prop) (t : AFr) (m : Mem) : Prop := Q .normal (t.cut ks) m
def putK (r : List AOper) (d : Option Nat) (t : AFr) (K : AFr → Mem → Prop) (v : AV) (m : Mem) : Prop := wpSeq P r (t.put d v) m K
def putDK (r : List AOper) (d : Option Nat) (t : AFr) (K : AFr → Mem → Prop) (v : AV) (m : Mem) (past : List Mem) (pend : List (Nat × (Mem → Prop))) : Prop := wpDraw P r (t.put d v) m past pend K
def putCK (m0 : Mem) (past : List Mem) (pend : List (Nat × (Mem → Prop))) (K : AV → Mem → List Mem → List (Nat × (Mem → Prop)) → Prop) (v : AV) (m : Mem) : Prop := pendOk (past.length + 1) pend m ∧ K v m (m0 :: past) pend
/-- An operation on its operands; one rule a kind. -/
def opW (k : AK) (vs : Option (List AV)) (m : Mem) (K : AV → Mem → Prop) : Prop := someW vs fun vs => stepW P k vs m K
def opDW (k : AK) (lo hi : Nat) (vs : Option (List AV)) (m : Mem) (past : List Mem) (pend : List (Nat × (Mem → Prop))) (K : AV → Mem → List Mem → List (Nat × (Mem → Prop)) → Prop) : Prop :=
  someW vs fun vs => drawW P ⟨none, k, [], none, lo, hi⟩ vs m past pend K
def guardS (w : Option Bool) (d : Option Nat) (k : AK) (xs : List AX) (r : List AOper) (t : AFr) (m : Mem) (K : AFr → Mem → Prop) : Prop :=
  guardW w (opW P k (evalAll t xs) m (putK P r d t K)) (wpSeq P r (t.put d undefA) m K)
def guardD (w : Option Bool) (d : Option Nat) (k : AK) (xs : List AX) (lo hi : Nat) (r : List AOper) (t : AFr) (m : Mem) (past : List Mem) (pend : List (Nat × (Mem → Prop))) (K : AFr → Mem → Prop) : Prop :=
  guardW w (opDW P k lo hi (evalAll t xs) m past pend (putDK P r d t K)) ((k.loud = true → pendOk (past.length + 1) pend m) ∧ wpDraw P r (t.put d undefA) m (if k.loud then m :: past else past) pend K)
def condS (v : Option AV) (a b : ACode) (t : AFr) (m : Mem) (Q : Exit → AFr → Mem → Prop) : Prop := condW v (wpA P a t m Q) (wpA P b t m Q)
def valK (K : AV → Mem → Prop) (m : Mem) (v : AV) : Prop := K v m
def aggK (K : AV → Mem → Prop) (m : Mem) (v : List AV) : Prop := K (.agg v) m
def mkK (K : AV → Mem → Prop) (m : Mem) (p : Blk × (Nat → AV)) : Prop := K (p.2 m.length) (m ++ [p.1])
def mkSK (K : AV → Mem → Prop) (m : Mem) (n : Nat) (c : List AV) : Prop := K (.sl m.length 0 n n 0) (m ++ [.row c false])
def wrK (K : AV → Mem → Prop) (p : AV × Mem) : Prop := K p.1 p.2
def valD (K : AV → Mem → List Mem → List (Nat × (Mem → Prop)) → Prop) (m : Mem) (past : List Mem) (pend : List (Nat × (Mem → Prop))) (v : AV) : Prop := K v m past pend
def aggD' (K : AV → Mem → List Mem → List (Nat × (Mem → Prop)) → Prop) (m : Mem) (past : List Mem) (pend : List (Nat × (Mem → Prop))) (v : List AV) : Prop := K (.agg v) m past pend
def rdD (g : Bool) (n lo hi : Nat) (vs : List AV) (K : AV → Mem → List Mem → List (Nat × (Mem → Prop)) → Prop) (m : Mem) (past : List Mem) (pend : List (Nat × (Mem → Prop))) (v : AV) : Prop :=
  pastOk (fun m1 => rLoad g n m1 vs = some v) (past.length - lo) past ∧ K v m past ((hi, fun m1 => rLoad g n m1 vs = some v) :: pend)
def mkD (hi : Nat) (K : AV → Mem → List Mem → List (Nat × (Mem → Prop)) → Prop) (m : Mem) (past : List Mem) (pend : List (Nat × (Mem → Prop))) (p : Blk × (Nat → AV)) : Prop :=
  K (p.2 m.length) (m ++ [p.1]) past ((hi, fun m1 => m1[m.length]? = some p.1) :: pend)
def mkSD (hi : Nat) (K : AV → Mem → List Mem → List (Nat × (Mem → Prop)) → Prop) (m : Mem) (past : List Mem) (pend : List (Nat × (Mem → Prop))) (n : Nat) (c : List AV) : Prop :=
  K (.sl m.length 0 n n 0) (m ++ [.row c false]) past ((hi, fun m1 => m1[m.length]? = some (.row c false)) :: pend)
def wrD (K : AV → Mem → List Mem → List (Nat × (Mem → Prop)) → Prop) (m : Mem) (past : List Mem) (pend : List (Nat × (Mem → Prop))) (p : AV × Mem) : Prop := pendOk (past.length + 1) pend p.2 ∧ K p.1 p.2 (m :: past) pend
def resK (R : AV → Mem → Prop) (m : Mem) (vs : List AV) : Prop := R (resVal vs) m

theorem seqK_normal (b : ACode) (Q : Exit → AFr → Mem → Prop) (t : AFr) (m : Mem) : seqK P b Q .normal t m = wpA P b t m Q := rfl
theorem seqK_exit (b : ACode) (Q : Exit → AFr → Mem → Prop) (i : Nat) (t : AFr) (m : Mem) : seqK P b Q (.exit i) t m = Q (.exit i) t m := rfl
theorem seqK_ret (b : ACode) (Q : Exit → AFr → Mem → Prop) (t : AFr) (m : Mem) : seqK P b Q .ret t m = Q .ret t m := rfl
end
theorem cutK_r (ks : List Nat) (Q : Exit → AFr → Mem → Prop) (t : AFr) (m : Mem) : cutK ks Q t m = Q .normal (t.cut ks) m := rfl
theorem putK_r (P : Program) (r : List AOper) (d : Option Nat) (t : AFr) (K : AFr → Mem → Prop) (v : AV) (m : Mem) : putK P r d t K v m = wpSeq P r (t.put d v) m K := rfl
theorem putDK_r (P : Program) (r : List AOper) (d : Option Nat) (t : AFr) (K : AFr → Mem → Prop) (v : AV) (m : Mem) (past : List Mem) (pend : List (Nat × (Mem → Prop))) : putDK P r d t K v m past pend = wpDraw P r (t.put d v) m past pend K := rfl
theorem putCK_r (m0 : Mem) (past : List Mem) (pend : List (Nat × (Mem → Prop))) (K : AV → Mem → List Mem → List (Nat × (Mem → Prop)) → Prop) (v : AV) (m : Mem) : putCK m0 past pend K v m = (pendOk (past.length + 1) pend m ∧ K v m (m0 :: past) pend) := rfl
theorem valK_r (K : AV → Mem → Prop) (m : Mem) (v : AV) : valK K m v = K v m := rfl
theorem aggK_r (K : AV → Mem → Prop) (m : Mem) (v : List AV) : aggK K m v = K (.agg v) m := rfl
theorem mkK_r (K : AV → Mem → Prop) (m : Mem) (b : Blk) (f : Nat → AV) : mkK K m (b, f) = K (f m.length) (m ++ [b]) := rfl
theorem mkSK_r (K : AV → Mem → Prop) (m : Mem) (n : Nat) (c : List AV) : mkSK K m n c = K (.sl m.length 0 n n 0) (m ++ [.row c false]) := rfl
theorem wrK_r (K : AV → Mem → Prop) (v : AV) (m : Mem) : wrK K (v, m) = K v m := rfl
section
variable (K : AV → Mem → List Mem → List (Nat × (Mem → Prop)) → Prop) (m : Mem) (past : List Mem) (pend : List (Nat × (Mem → Prop)))
theorem valD_r (v : AV) : valD K m past pend v = K v m past pend := rfl
theorem aggD_r (v : List AV) : aggD' K m past pend v = K (.agg v) m past pend := rfl
theorem rdD_r (g : Bool) (n lo hi : Nat) (vs : List AV) (v : AV) : rdD g n lo hi vs K m past pend v = (pastOk (fun m1 => rLoad g n m1 vs = some v) (past.length - lo) past ∧ K v m past ((hi, fun m1 => rLoad g n m1 vs = some v) :: pend)) := rfl
theorem mkD_r (hi : Nat) (b : Blk) (f : Nat → AV) : mkD hi K m past pend (b, f) = K (f m.length) (m ++ [b]) past ((hi, fun m1 => m1[m.length]? = some b) :: pend) := rfl
theorem mkSD_r (hi n : Nat) (c : List AV) : mkSD hi K m past pend n c = K (.sl m.length 0 n n 0) (m ++ [.row c false]) past ((hi, fun m1 => m1[m.length]? = some (.row c false)) :: pend) := rfl
theorem wrD_r (v : AV) (m' : Mem) : wrD K m past pend (v, m') = (pendOk (past.length + 1) pend m' ∧ K v m' (m :: past) pend) := rfl
end
theorem resK_r (R : AV → Mem → Prop) (m : Mem) (vs : List AV) : resK R m vs = R (resVal vs) m := rfl
theorem guardS_t (P : Program) (d : Option Nat) (k : AK) (xs : List AX) (r : List AOper) (t : AFr) (m : Mem) (K : AFr → Mem → Prop) : guardS P (some true) d k xs r t m K = opW P k (evalAll t xs) m (putK P r d t K) := by simp [guardS, guardW]
theorem guardS_f (P : Program) (d : Option Nat) (k : AK) (xs : List AX) (r : List AOper) (t : AFr) (m : Mem) (K : AFr → Mem → Prop) : guardS P (some false) d k xs r t m K = wpSeq P r (t.put d undefA) m K := by simp [guardS, guardW]
theorem guardS_i {P : Program} {x : Bool} {d : Option Nat} {k : AK} {xs : List AX} {r : List AOper} {t : AFr} {m : Mem} {K : AFr → Mem → Prop} (h1 : x = true → guardS P (some true) d k xs r t m K) (h2 : x = false → guardS P (some false) d k xs r t m K) : guardS P (some x) d k xs r t m K := by
  cases x
  · exact h2 rfl
  · exact h1 rfl
theorem guardD_t (P : Program) (d : Option Nat) (k : AK) (xs : List AX) (lo hi : Nat) (r : List AOper) (t : AFr) (m : Mem) (past : List Mem) (pend : List (Nat × (Mem → Prop))) (K : AFr → Mem → Prop) : guardD P (some true) d k xs lo hi r t m past pend K = opDW P k lo hi (evalAll t xs) m past pend (putDK P r d t K) := by simp [guardD, guardW]
theorem guardD_f (P : Program) (d : Option Nat) (k : AK) (xs : List AX) (lo hi : Nat) (r : List AOper) (t : AFr) (m : Mem) (past : List Mem) (pend : List (Nat × (Mem → Prop))) (K : AFr → Mem → Prop) : guardD P (some false) d k xs lo hi r t m past pend K = ((k.loud = true → pendOk (past.length + 1) pend m) ∧ wpDraw P r (t.put d undefA) m (if k.loud then m :: past else past) pend K) := by simp [guardD, guardW]
theorem guardD_i {P : Program} {x : Bool} {d : Option Nat} {k : AK} {xs : List AX} {lo hi : Nat} {r : List AOper} {t : AFr} {m : Mem} {past : List Mem} {pend : List (Nat × (Mem → Prop))} {K : AFr → Mem → Prop} (h1 : x = true → guardD P (some true) d k xs lo hi r t m past pend K) (h2 : x = false → guardD P (some false) d k xs lo hi r t m past pend K) : guardD P (some x) d k xs lo hi r t m past pend K := by
  cases x
  · exact h2 rfl
  · exact h1 rfl
theorem condS_t (P : Program) (a b : ACode) (t : AFr) (m : Mem) (Q : Exit → AFr → Mem → Prop) : condS P (some (.bool true)) a b t m Q = wpA P a t m Q := by simp [condS, condW]
theorem condS_f (P : Program) (a b : ACode) (t : AFr) (m : Mem) (Q : Exit → AFr → Mem → Prop) : condS P (some (.bool false)) a b t m Q = wpA P b t m Q := by simp [condS, condW]
theorem condS_i {P : Program} {x : Bool} {a b : ACode} {t : AFr} {m : Mem} {Q : Exit → AFr → Mem → Prop} (h1 : x = true → condS P (some (.bool true)) a b t m Q) (h2 : x = false → condS P (some (.bool false)) a b t m Q) : condS P (some (.bool x)) a b t m Q := by
  cases x
  · exact h2 rfl
  · exact h1 rfl

section
variable (P : Program)
theorem wpSeq_nil (t : AFr) (m : Mem) (K : AFr → Mem → Prop) : wpSeq P [] t m K = K t m := rfl
theorem wpSeq_cons (d : Option Nat) (k : AK) (xs : List AX) (lo hi : Nat) (r : List AOper) (t : AFr) (m : Mem) (K : AFr → Mem → Prop) : wpSeq P (⟨d, k, xs, none, lo, hi⟩ :: r) t m K =
  opW P k (evalAll t xs) m (putK P r d t K) := by simp [wpSeq, wantedA, guardW, opW]; rfl
theorem wpSeq_consg (d : Option Nat) (k : AK) (xs : List AX) (g : Nat × Bool) (lo hi : Nat) (r : List AOper) (t : AFr) (m : Mem) (K : AFr → Mem → Prop) : wpSeq P (⟨d, k, xs, some g, lo, hi⟩ :: r) t m K =
  guardS P (wantedA (some g) t) d k xs r t m K := rfl
theorem wpDraw_nil (t : AFr) (m : Mem) (past : List Mem) (pend : List (Nat × (Mem → Prop))) (K : AFr → Mem → Prop) : wpDraw P [] t m past pend K = K t m := rfl
theorem wpDraw_cons (d : Option Nat) (k : AK) (xs : List AX) (lo hi : Nat) (r : List AOper) (t : AFr) (m : Mem) (past : List Mem) (pend : List (Nat × (Mem → Prop))) (K : AFr → Mem → Prop) : wpDraw P (⟨d, k, xs, none, lo, hi⟩ :: r) t m past pend K =
  opDW P k lo hi (evalAll t xs) m past pend (putDK P r d t K) := by simp [wpDraw, wantedA, guardW, opDW, drawW]; rfl
theorem wpDraw_consg (d : Option Nat) (k : AK) (xs : List AX) (g : Nat × Bool) (lo hi : Nat) (r : List AOper) (t : AFr) (m : Mem) (past : List Mem) (pend : List (Nat × (Mem → Prop))) (K : AFr → Mem → Prop) : wpDraw P (⟨d, k, xs, some g, lo, hi⟩ :: r) t m past pend K =
  guardD P (wantedA (some g) t) d k xs lo hi r t m past pend K := rfl

theorem opW_mv  (vs : List AV) (m : Mem) (K : AV → Mem → Prop) : opW P .mv (some vs) m K = someW (pMv vs) (valK K m) := rfl
theorem opDW_mv  (lo_ hi_ : Nat) (vs : List AV) (m : Mem) (past : List Mem) (pend : List (Nat × (Mem → Prop))) (K : AV → Mem → List Mem → List (Nat × (Mem → Prop)) → Prop) : opDW P .mv lo_ hi_ (some vs) m past pend K = someW (pMv vs) (valD K m past pend) := rfl
theorem opW_pick  (vs : List AV) (m : Mem) (K : AV → Mem → Prop) : opW P .pick (some vs) m K = someW (pPick vs) (valK K m) := rfl
theorem opDW_pick  (lo_ hi_ : Nat) (vs : List AV) (m : Mem) (past : List Mem) (pend : List (Nat × (Mem → Prop))) (K : AV → Mem → List Mem → List (Nat × (Mem → Prop)) → Prop) : opDW P .pick lo_ hi_ (some vs) m past pend K = someW (pPick vs) (valD K m past pend) := rfl
theorem opW_nilCheck  (vs : List AV) (m : Mem) (K : AV → Mem → Prop) : opW P .nilCheck (some vs) m K = someW (pNil vs) (valK K m) := rfl
theorem opDW_nilCheck  (lo_ hi_ : Nat) (vs : List AV) (m : Mem) (past : List Mem) (pend : List (Nat × (Mem → Prop))) (K : AV → Mem → List Mem → List (Nat × (Mem → Prop)) → Prop) : opDW P .nilCheck lo_ hi_ (some vs) m past pend K = someW (pNil vs) (valD K m past pend) := rfl
theorem opW_arith (op : BinOp) (vs : List AV) (m : Mem) (K : AV → Mem → Prop) : opW P (.arith op) (some vs) m K = someW (pArith op vs) (valK K m) := rfl
theorem opDW_arith (op : BinOp) (lo_ hi_ : Nat) (vs : List AV) (m : Mem) (past : List Mem) (pend : List (Nat × (Mem → Prop))) (K : AV → Mem → List Mem → List (Nat × (Mem → Prop)) → Prop) : opDW P (.arith op) lo_ hi_ (some vs) m past pend K = someW (pArith op vs) (valD K m past pend) := rfl
theorem opW_shift (op : BinOp) (vs : List AV) (m : Mem) (K : AV → Mem → Prop) : opW P (.shift op) (some vs) m K = someW (pShift op vs) (valK K m) := rfl
theorem opDW_shift (op : BinOp) (lo_ hi_ : Nat) (vs : List AV) (m : Mem) (past : List Mem) (pend : List (Nat × (Mem → Prop))) (K : AV → Mem → List Mem → List (Nat × (Mem → Prop)) → Prop) : opDW P (.shift op) lo_ hi_ (some vs) m past pend K = someW (pShift op vs) (valD K m past pend) := rfl
theorem opW_cmp (op : BinOp) (vs : List AV) (m : Mem) (K : AV → Mem → Prop) : opW P (.cmp op) (some vs) m K = someW (pCmp op vs) (valK K m) := rfl
theorem opDW_cmp (op : BinOp) (lo_ hi_ : Nat) (vs : List AV) (m : Mem) (past : List Mem) (pend : List (Nat × (Mem → Prop))) (K : AV → Mem → List Mem → List (Nat × (Mem → Prop)) → Prop) : opDW P (.cmp op) lo_ hi_ (some vs) m past pend K = someW (pCmp op vs) (valD K m past pend) := rfl
theorem opW_eq (neg : Bool) (e : EK) (vs : List AV) (m : Mem) (K : AV → Mem → Prop) : opW P (.eq neg e) (some vs) m K = someW (pEq neg e vs) (valK K m) := rfl
theorem opDW_eq (neg : Bool) (e : EK) (lo_ hi_ : Nat) (vs : List AV) (m : Mem) (past : List Mem) (pend : List (Nat × (Mem → Prop))) (K : AV → Mem → List Mem → List (Nat × (Mem → Prop)) → Prop) : opDW P (.eq neg e) lo_ hi_ (some vs) m past pend K = someW (pEq neg e vs) (valD K m past pend) := rfl
theorem opW_eqAgg (neg : Bool) (ks : List CK) (vs : List AV) (m : Mem) (K : AV → Mem → Prop) : opW P (.eqAgg neg ks) (some vs) m K = someW (pEqAgg neg ks vs) (valK K m) := rfl
theorem opDW_eqAgg (neg : Bool) (ks : List CK) (lo_ hi_ : Nat) (vs : List AV) (m : Mem) (past : List Mem) (pend : List (Nat × (Mem → Prop))) (K : AV → Mem → List Mem → List (Nat × (Mem → Prop)) → Prop) : opDW P (.eqAgg neg ks) lo_ hi_ (some vs) m past pend K = someW (pEqAgg neg ks vs) (valD K m past pend) := rfl
theorem opW_not  (vs : List AV) (m : Mem) (K : AV → Mem → Prop) : opW P .not (some vs) m K = someW (pNot vs) (valK K m) := rfl
theorem opDW_not  (lo_ hi_ : Nat) (vs : List AV) (m : Mem) (past : List Mem) (pend : List (Nat × (Mem → Prop))) (K : AV → Mem → List Mem → List (Nat × (Mem → Prop)) → Prop) : opDW P .not lo_ hi_ (some vs) m past pend K = someW (pNot vs) (valD K m past pend) := rfl
theorem opW_neg  (vs : List AV) (m : Mem) (K : AV → Mem → Prop) : opW P .neg (some vs) m K = someW (pNeg vs) (valK K m) := rfl
theorem opDW_neg  (lo_ hi_ : Nat) (vs : List AV) (m : Mem) (past : List Mem) (pend : List (Nat × (Mem → Prop))) (K : AV → Mem → List Mem → List (Nat × (Mem → Prop)) → Prop) : opDW P .neg lo_ hi_ (some vs) m past pend K = someW (pNeg vs) (valD K m past pend) := rfl
theorem opW_bnot  (vs : List AV) (m : Mem) (K : AV → Mem → Prop) : opW P .bnot (some vs) m K = someW (pBnot vs) (valK K m) := rfl
theorem opDW_bnot  (lo_ hi_ : Nat) (vs : List AV) (m : Mem) (past : List Mem) (pend : List (Nat × (Mem → Prop))) (K : AV → Mem → List Mem → List (Nat × (Mem → Prop)) → Prop) : opDW P .bnot lo_ hi_ (some vs) m past pend K = someW (pBnot vs) (valD K m past pend) := rfl
theorem opW_conv (k : IntKind) (vs : List AV) (m : Mem) (K : AV → Mem → Prop) : opW P (.conv k) (some vs) m K = someW (pConv k vs) (valK K m) := rfl
theorem opDW_conv (k : IntKind) (lo_ hi_ : Nat) (vs : List AV) (m : Mem) (past : List Mem) (pend : List (Nat × (Mem → Prop))) (K : AV → Mem → List Mem → List (Nat × (Mem → Prop)) → Prop) : opDW P (.conv k) lo_ hi_ (some vs) m past pend K = someW (pConv k vs) (valD K m past pend) := rfl
theorem opW_arrPtr (n : Nat) (vs : List AV) (m : Mem) (K : AV → Mem → Prop) : opW P (.arrPtr n) (some vs) m K = someW (pArrPtr n vs) (valK K m) := rfl
theorem opDW_arrPtr (n : Nat) (lo_ hi_ : Nat) (vs : List AV) (m : Mem) (past : List Mem) (pend : List (Nat × (Mem → Prop))) (K : AV → Mem → List Mem → List (Nat × (Mem → Prop)) → Prop) : opDW P (.arrPtr n) lo_ hi_ (some vs) m past pend K = someW (pArrPtr n vs) (valD K m past pend) := rfl
theorem opW_slice (size : Nat) (lo hi mx : Bool) (vs : List AV) (m : Mem) (K : AV → Mem → Prop) : opW P (.slice size lo hi mx) (some vs) m K = someW (pSlice size lo hi mx vs) (valK K m) := rfl
theorem opDW_slice (size : Nat) (lo hi mx : Bool) (lo_ hi_ : Nat) (vs : List AV) (m : Mem) (past : List Mem) (pend : List (Nat × (Mem → Prop))) (K : AV → Mem → List Mem → List (Nat × (Mem → Prop)) → Prop) : opDW P (.slice size lo hi mx) lo_ hi_ (some vs) m past pend K = someW (pSlice size lo hi mx vs) (valD K m past pend) := rfl
theorem opW_sliceArr (n size : Nat) (lo hi mx : Bool) (vs : List AV) (m : Mem) (K : AV → Mem → Prop) : opW P (.sliceArr n size lo hi mx) (some vs) m K = someW (pSliceArr n size lo hi mx vs) (valK K m) := rfl
theorem opDW_sliceArr (n size : Nat) (lo hi mx : Bool) (lo_ hi_ : Nat) (vs : List AV) (m : Mem) (past : List Mem) (pend : List (Nat × (Mem → Prop))) (K : AV → Mem → List Mem → List (Nat × (Mem → Prop)) → Prop) : opDW P (.sliceArr n size lo hi mx) lo_ hi_ (some vs) m past pend K = someW (pSliceArr n size lo hi mx vs) (valD K m past pend) := rfl
theorem opW_fieldAddr (off : Nat) (vs : List AV) (m : Mem) (K : AV → Mem → Prop) : opW P (.fieldAddr off) (some vs) m K = someW (pFieldAddr off vs) (valK K m) := rfl
theorem opDW_fieldAddr (off : Nat) (lo_ hi_ : Nat) (vs : List AV) (m : Mem) (past : List Mem) (pend : List (Nat × (Mem → Prop))) (K : AV → Mem → List Mem → List (Nat × (Mem → Prop)) → Prop) : opDW P (.fieldAddr off) lo_ hi_ (some vs) m past pend K = someW (pFieldAddr off vs) (valD K m past pend) := rfl
theorem opW_part (off size : Nat) (agg : Bool) (vs : List AV) (m : Mem) (K : AV → Mem → Prop) : opW P (.part off size agg) (some vs) m K = someW (pPart off size agg vs) (valK K m) := rfl
theorem opDW_part (off size : Nat) (agg : Bool) (lo_ hi_ : Nat) (vs : List AV) (m : Mem) (past : List Mem) (pend : List (Nat × (Mem → Prop))) (K : AV → Mem → List Mem → List (Nat × (Mem → Prop)) → Prop) : opDW P (.part off size agg) lo_ hi_ (some vs) m past pend K = someW (pPart off size agg vs) (valD K m past pend) := rfl
theorem opW_idxAddr (size : Nat) (vs : List AV) (m : Mem) (K : AV → Mem → Prop) : opW P (.idxAddr size) (some vs) m K = someW (pIdxAddr size vs) (valK K m) := rfl
theorem opDW_idxAddr (size : Nat) (lo_ hi_ : Nat) (vs : List AV) (m : Mem) (past : List Mem) (pend : List (Nat × (Mem → Prop))) (K : AV → Mem → List Mem → List (Nat × (Mem → Prop)) → Prop) : opDW P (.idxAddr size) lo_ hi_ (some vs) m past pend K = someW (pIdxAddr size vs) (valD K m past pend) := rfl
theorem opW_idxAddrArr (n size : Nat) (vs : List AV) (m : Mem) (K : AV → Mem → Prop) : opW P (.idxAddrArr n size) (some vs) m K = someW (pIdxAddrArr n size vs) (valK K m) := rfl
theorem opDW_idxAddrArr (n size : Nat) (lo_ hi_ : Nat) (vs : List AV) (m : Mem) (past : List Mem) (pend : List (Nat × (Mem → Prop))) (K : AV → Mem → List Mem → List (Nat × (Mem → Prop)) → Prop) : opDW P (.idxAddrArr n size) lo_ hi_ (some vs) m past pend K = someW (pIdxAddrArr n size vs) (valD K m past pend) := rfl
theorem opW_idxArr (n size : Nat) (agg : Bool) (vs : List AV) (m : Mem) (K : AV → Mem → Prop) : opW P (.idxArr n size agg) (some vs) m K = someW (pIdxArr n size agg vs) (valK K m) := rfl
theorem opDW_idxArr (n size : Nat) (agg : Bool) (lo_ hi_ : Nat) (vs : List AV) (m : Mem) (past : List Mem) (pend : List (Nat × (Mem → Prop))) (K : AV → Mem → List Mem → List (Nat × (Mem → Prop)) → Prop) : opDW P (.idxArr n size agg) lo_ hi_ (some vs) m past pend K = someW (pIdxArr n size agg vs) (valD K m past pend) := rfl
theorem opW_idxStr  (vs : List AV) (m : Mem) (K : AV → Mem → Prop) : opW P .idxStr (some vs) m K = someW (pIdxStr vs) (valK K m) := rfl
theorem opDW_idxStr  (lo_ hi_ : Nat) (vs : List AV) (m : Mem) (past : List Mem) (pend : List (Nat × (Mem → Prop))) (K : AV → Mem → List Mem → List (Nat × (Mem → Prop)) → Prop) : opDW P .idxStr lo_ hi_ (some vs) m past pend K = someW (pIdxStr vs) (valD K m past pend) := rfl
theorem opW_extract (i : Nat) (vs : List AV) (m : Mem) (K : AV → Mem → Prop) : opW P (.extract i) (some vs) m K = someW (pExtract i vs) (valK K m) := rfl
theorem opDW_extract (i : Nat) (lo_ hi_ : Nat) (vs : List AV) (m : Mem) (past : List Mem) (pend : List (Nat × (Mem → Prop))) (K : AV → Mem → List Mem → List (Nat × (Mem → Prop)) → Prop) : opDW P (.extract i) lo_ hi_ (some vs) m past pend K = someW (pExtract i vs) (valD K m past pend) := rfl
theorem opW_len  (vs : List AV) (m : Mem) (K : AV → Mem → Prop) : opW P .len (some vs) m K = someW (pLen vs) (valK K m) := rfl
theorem opDW_len  (lo_ hi_ : Nat) (vs : List AV) (m : Mem) (past : List Mem) (pend : List (Nat × (Mem → Prop))) (K : AV → Mem → List Mem → List (Nat × (Mem → Prop)) → Prop) : opDW P .len lo_ hi_ (some vs) m past pend K = someW (pLen vs) (valD K m past pend) := rfl
theorem opW_lenStr  (vs : List AV) (m : Mem) (K : AV → Mem → Prop) : opW P .lenStr (some vs) m K = someW (pLenStr vs) (valK K m) := rfl
theorem opDW_lenStr  (lo_ hi_ : Nat) (vs : List AV) (m : Mem) (past : List Mem) (pend : List (Nat × (Mem → Prop))) (K : AV → Mem → List Mem → List (Nat × (Mem → Prop)) → Prop) : opDW P .lenStr lo_ hi_ (some vs) m past pend K = someW (pLenStr vs) (valD K m past pend) := rfl
theorem opW_lenArr (n : Nat) (vs : List AV) (m : Mem) (K : AV → Mem → Prop) : opW P (.lenArr n) (some vs) m K = someW (pLenArr n vs) (valK K m) := rfl
theorem opDW_lenArr (n : Nat) (lo_ hi_ : Nat) (vs : List AV) (m : Mem) (past : List Mem) (pend : List (Nat × (Mem → Prop))) (K : AV → Mem → List Mem → List (Nat × (Mem → Prop)) → Prop) : opDW P (.lenArr n) lo_ hi_ (some vs) m past pend K = someW (pLenArr n vs) (valD K m past pend) := rfl
theorem opW_min  (vs : List AV) (m : Mem) (K : AV → Mem → Prop) : opW P .min (some vs) m K = someW (pMin vs) (valK K m) := rfl
theorem opDW_min  (lo_ hi_ : Nat) (vs : List AV) (m : Mem) (past : List Mem) (pend : List (Nat × (Mem → Prop))) (K : AV → Mem → List Mem → List (Nat × (Mem → Prop)) → Prop) : opDW P .min lo_ hi_ (some vs) m past pend K = someW (pMin vs) (valD K m past pend) := rfl
theorem opW_max  (vs : List AV) (m : Mem) (K : AV → Mem → Prop) : opW P .max (some vs) m K = someW (pMax vs) (valK K m) := rfl
theorem opDW_max  (lo_ hi_ : Nat) (vs : List AV) (m : Mem) (past : List Mem) (pend : List (Nat × (Mem → Prop))) (K : AV → Mem → List Mem → List (Nat × (Mem → Prop)) → Prop) : opDW P .max lo_ hi_ (some vs) m past pend K = someW (pMax vs) (valD K m past pend) := rfl
theorem opW_iface (t : TypeId) (vs : List AV) (m : Mem) (K : AV → Mem → Prop) : opW P (.iface t) (some vs) m K = someW (pIface t vs) (valK K m) := rfl
theorem opDW_iface (t : TypeId) (lo_ hi_ : Nat) (vs : List AV) (m : Mem) (past : List Mem) (pend : List (Nat × (Mem → Prop))) (K : AV → Mem → List Mem → List (Nat × (Mem → Prop)) → Prop) : opDW P (.iface t) lo_ hi_ (some vs) m past pend K = someW (pIface t vs) (valD K m past pend) := rfl
theorem opW_mkFn (f : Fn) (nf : Nat) (vs : List AV) (m : Mem) (K : AV → Mem → Prop) : opW P (.mkFn f nf) (some vs) m K = K (.fn f (vs.take nf) (vs.drop nf)) m := rfl
theorem opDW_mkFn (f : Fn) (nf : Nat) (lo_ hi_ : Nat) (vs : List AV) (m : Mem) (past : List Mem) (pend : List (Nat × (Mem → Prop))) (K : AV → Mem → List Mem → List (Nat × (Mem → Prop)) → Prop) : opDW P (.mkFn f nf) lo_ hi_ (some vs) m past pend K = K (.fn f (vs.take nf) (vs.drop nf)) m past pend := rfl
theorem opW_build (zero : List AV) (places : List (Nat × Nat)) (vs : List AV) (m : Mem) (K : AV → Mem → Prop) : opW P (.build zero places) (some vs) m K = someW (aFill zero places vs) (aggK K m) := by
  simp only [opW, someW, stepW, AK.cls, aP]
  cases aFill zero places vs <;> rfl
theorem opDW_build (zero : List AV) (places : List (Nat × Nat)) (lo_ hi_ : Nat) (vs : List AV) (m : Mem) (past : List Mem) (pend : List (Nat × (Mem → Prop))) (K : AV → Mem → List Mem → List (Nat × (Mem → Prop)) → Prop) : opDW P (.build zero places) lo_ hi_ (some vs) m past pend K = someW (aFill zero places vs) (aggD' K m past pend) := by
  simp only [opDW, someW, drawW, AK.cls, aP]
  cases aFill zero places vs <;> rfl
theorem opW_alloc (zero : List AV) (vs : List AV) (m : Mem) (K : AV → Mem → Prop) : opW P (.alloc zero) (some vs) m K = someW (mkAlloc zero vs) (mkK K m) := rfl
theorem opDW_alloc (zero : List AV) (lo_ hi_ : Nat) (vs : List AV) (m : Mem) (past : List Mem) (pend : List (Nat × (Mem → Prop))) (K : AV → Mem → List Mem → List (Nat × (Mem → Prop)) → Prop) : opDW P (.alloc zero) lo_ hi_ (some vs) m past pend K = someW (mkAlloc zero vs) (mkD hi_ K m past pend) := rfl
theorem opW_box  (vs : List AV) (m : Mem) (K : AV → Mem → Prop) : opW P .box (some vs) m K = someW (mkBox vs) (mkK K m) := rfl
theorem opDW_box  (lo_ hi_ : Nat) (vs : List AV) (m : Mem) (past : List Mem) (pend : List (Nat × (Mem → Prop))) (K : AV → Mem → List Mem → List (Nat × (Mem → Prop)) → Prop) : opDW P .box lo_ hi_ (some vs) m past pend K = someW (mkBox vs) (mkD hi_ K m past pend) := rfl
theorem opW_mkSlice (zero : List AV) (bytes : Nat) (vs : List AV) (m : Mem) (K : AV → Mem → Prop) : opW P (.mkSlice zero bytes) (some vs) m K = someW (mkMake zero bytes vs) (mkK K m) := rfl
theorem opDW_mkSlice (zero : List AV) (bytes : Nat) (lo_ hi_ : Nat) (vs : List AV) (m : Mem) (past : List Mem) (pend : List (Nat × (Mem → Prop))) (K : AV → Mem → List Mem → List (Nat × (Mem → Prop)) → Prop) : opDW P (.mkSlice zero bytes) lo_ hi_ (some vs) m past pend K = someW (mkMake zero bytes vs) (mkD hi_ K m past pend) := rfl
theorem opW_mkSl (n : Nat) (zero : List AV) (places : List (Nat × Nat)) (vs : List AV) (m : Mem) (K : AV → Mem → Prop) : opW P (.mkSl n zero places) (some vs) m K = someW (aFill zero places vs) (mkSK K m n) := by
  simp only [opW, someW, stepW, AK.cls, aA]
  cases aFill zero places vs <;> rfl
theorem opDW_mkSl (n : Nat) (zero : List AV) (places : List (Nat × Nat)) (lo_ hi_ : Nat) (vs : List AV) (m : Mem) (past : List Mem) (pend : List (Nat × (Mem → Prop))) (K : AV → Mem → List Mem → List (Nat × (Mem → Prop)) → Prop) : opDW P (.mkSl n zero places) lo_ hi_ (some vs) m past pend K = someW (aFill zero places vs) (mkSD hi_ K m past pend n) := by
  simp only [opDW, someW, drawW, AK.cls, aA]
  cases aFill zero places vs <;> rfl
theorem opW_load (g : Bool) (n : Nat) (vs : List AV) (m : Mem) (K : AV → Mem → Prop) : opW P (.load g n) (some vs) m K = someW (rLoad g n m vs) (valK K m) := rfl
theorem opDW_load (g : Bool) (n lo hi : Nat) (vs : List AV) (m : Mem) (past : List Mem) (pend : List (Nat × (Mem → Prop))) (K : AV → Mem → List Mem → List (Nat × (Mem → Prop)) → Prop) :
    opDW P (.load g n) lo hi (some vs) m past pend K = someW (rLoad g n m vs) (rdD g n lo hi vs K m past pend) := rfl
theorem opW_store (n : Nat) (vs : List AV) (m : Mem) (K : AV → Mem → Prop) : opW P (.store n) (some vs) m K = someW (w2 (aStore n) m vs) (wrK K) := rfl
theorem opDW_store (n : Nat) (lo_ hi_ : Nat) (vs : List AV) (m : Mem) (past : List Mem) (pend : List (Nat × (Mem → Prop))) (K : AV → Mem → List Mem → List (Nat × (Mem → Prop)) → Prop) : opDW P (.store n) lo_ hi_ (some vs) m past pend K = someW (w2 (aStore n) m vs) (wrD K m past pend) := rfl
theorem opW_append (size bytes : Nat) (vs : List AV) (m : Mem) (K : AV → Mem → Prop) : opW P (.append size bytes) (some vs) m K = someW (w2 (aAppend size bytes) m vs) (wrK K) := rfl
theorem opDW_append (size bytes : Nat) (lo_ hi_ : Nat) (vs : List AV) (m : Mem) (past : List Mem) (pend : List (Nat × (Mem → Prop))) (K : AV → Mem → List Mem → List (Nat × (Mem → Prop)) → Prop) : opDW P (.append size bytes) lo_ hi_ (some vs) m past pend K = someW (w2 (aAppend size bytes) m vs) (wrD K m past pend) := rfl
theorem opW_copy (size : Nat) (vs : List AV) (m : Mem) (K : AV → Mem → Prop) : opW P (.copy size) (some vs) m K = someW (w2 (aCopy size) m vs) (wrK K) := rfl
theorem opDW_copy (size : Nat) (lo_ hi_ : Nat) (vs : List AV) (m : Mem) (past : List Mem) (pend : List (Nat × (Mem → Prop))) (K : AV → Mem → List Mem → List (Nat × (Mem → Prop)) → Prop) : opDW P (.copy size) lo_ hi_ (some vs) m past pend K = someW (w2 (aCopy size) m vs) (wrD K m past pend) := rfl
theorem opW_call (f : FuncId) (vs : List AV) (m : Mem) (K : AV → Mem → Prop) : opW P (.call f) (some vs) m K = Ans P f vs m K := rfl
theorem opDW_call (f : FuncId) (lo hi : Nat) (vs : List AV) (m : Mem) (past : List Mem) (pend : List (Nat × (Mem → Prop))) (K : AV → Mem → List Mem → List (Nat × (Mem → Prop)) → Prop) :
    opDW P (.call f) lo hi (some vs) m past pend K = Ans P f vs m (putCK m past pend K) := rfl
theorem opW_callv (f : FuncId) (fs cs vs : List AV) (m : Mem) (K : AV → Mem → Prop) : opW P .callv (some (.fn (.func f) fs cs :: vs)) m K = Ans P f (fs ++ vs ++ cs) m K := rfl
theorem opDW_callv (f : FuncId) (fs cs : List AV) (lo hi : Nat) (vs : List AV) (m : Mem) (past : List Mem) (pend : List (Nat × (Mem → Prop))) (K : AV → Mem → List Mem → List (Nat × (Mem → Prop)) → Prop) :
    opDW P .callv lo hi (some (.fn (.func f) fs cs :: vs)) m past pend K = Ans P f (fs ++ vs ++ cs) m (putCK m past pend K) := rfl

theorem wpA_skip (t : AFr) (m : Mem) (Q : Exit → AFr → Mem → Prop) : wpA P .skip t m Q = Q .normal t m := rfl
theorem wpA_ops (ks : List Nat) (l : List AOper) (t : AFr) (m : Mem) (Q : Exit → AFr → Mem → Prop) : wpA P (.ops ks l) t m Q = wpSeq P l t m (cutK ks Q) := rfl
theorem wpA_drawn (ks : List Nat) (l : List AOper) (t : AFr) (m : Mem) (Q : Exit → AFr → Mem → Prop) : wpA P (.drawn ks l) t m Q = wpDraw P l t m [] [] (cutK ks Q) := rfl
theorem wpA_seq (a b : ACode) (t : AFr) (m : Mem) (Q : Exit → AFr → Mem → Prop) : wpA P (.seq a b) t m Q = wpA P a t m (seqK P b Q) := rfl
theorem wpA_cond (c : AX) (a b : ACode) (t : AFr) (m : Mem) (Q : Exit → AFr → Mem → Prop) : wpA P (.cond c a b) t m Q = condS P (c.eval t) a b t m Q := rfl
theorem wpA_block (id : Nat) (a : ACode) (t : AFr) (m : Mem) (Q : Exit → AFr → Mem → Prop) : wpA P (.block id a) t m Q = wpA P a t m (blockQ id Q) := rfl
theorem wpA_loop (ks : List Nat) (a : ACode) (t : AFr) (m : Mem) (Q : Exit → AFr → Mem → Prop) : wpA P (.loop ks a) t m Q = LoopW ks (wpA P a) t m Q := rfl
theorem wpA_exit (id : Nat) (t : AFr) (m : Mem) (Q : Exit → AFr → Mem → Prop) : wpA P (.exit id) t m Q = Q (.exit id) t m := rfl
theorem wpA_ret (t : AFr) (m : Mem) (Q : Exit → AFr → Mem → Prop) : wpA P .ret t m Q = Q .ret t m := rfl
end

theorem loopQ_normal (X : AFr → Mem → Prop) (Q : Exit → AFr → Mem → Prop) (t : AFr) (m : Mem) : loopQ X Q .normal t m = X t m := rfl
theorem loopQ_exit (X : AFr → Mem → Prop) (Q : Exit → AFr → Mem → Prop) (i : Nat) (t : AFr) (m : Mem) : loopQ X Q (.exit i) t m = Q (.exit i) t m := rfl
theorem loopQ_ret (X : AFr → Mem → Prop) (Q : Exit → AFr → Mem → Prop) (t : AFr) (m : Mem) : loopQ X Q .ret t m = Q .ret t m := rfl
theorem blockQ_normal (id : Nat) (Q : Exit → AFr → Mem → Prop) (t : AFr) (m : Mem) : blockQ id Q .normal t m = Q .normal t m := rfl
theorem blockQ_ret (id : Nat) (Q : Exit → AFr → Mem → Prop) (t : AFr) (m : Mem) : blockQ id Q .ret t m = Q .ret t m := rfl
theorem blockQ_exit (id i : Nat) (Q : Exit → AFr → Mem → Prop) (t : AFr) (m : Mem) : blockQ id Q (.exit i) t m = if i = id then Q .normal t m else Q (.exit i) t m := rfl
/-- How a function ends: one of its results. -/
def retQ (rs : List ARes) (R : AV → Mem → Prop) (e : Exit) (t : AFr) (m : Mem) : Prop := (e = .normal ∨ e = .ret) ∧ someW (resAll t m rs) fun vs => R (resVal vs) m
theorem retQ_normal (rs : List ARes) (R : AV → Mem → Prop) (t : AFr) (m : Mem) : retQ rs R .normal t m = someW (resAll t m rs) (resK R m) := by simp [retQ]; rfl
theorem retQ_ret (rs : List ARes) (R : AV → Mem → Prop) (t : AFr) (m : Mem) : retQ rs R .ret t m = someW (resAll t m rs) (resK R m) := by simp [retQ]; rfl
theorem ans_ret {P : Program} (hm : P.follows .mixedOrders = true) {f : FuncId} {c : ACode} {rs : List ARes} (hf : FnOk P f c rs) {args : List AV} {m : Mem} {R : AV → Mem → Prop}
    (h : wpA P c (frameOf 0 args) m (retQ rs R)) : Ans P f args m R := ans_of hm hf h

end Go.Adm
