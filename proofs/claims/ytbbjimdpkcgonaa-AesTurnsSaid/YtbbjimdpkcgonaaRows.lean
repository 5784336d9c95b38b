/-
  No cell of these rows narrows 'for every input' (looked for: loops, veiled, ifaces, maps, wideKeys, modest, calm, conditions, laid).
  DERIVED. THE GIVEN ROWS OF THIS SEAT. 6 by the template 'for every input the law returns true; each argument reads behind the call as it read before'; 0 by the template 'total and deterministic' (their statements: YtbbjimdpkcgonaaTotals.lean).
  GIVEN WITH THE SEED: the statements are not yours to turn. If you find one false, say at which input.
  Laid BY PROGRAM, IN A SANDBOX (cutbox-rows.mjs): the forced cells as the released guide's own fill.sh prints them over the translation 9d7c8d81d500efaa… (all of the seat's roots in one cut). By AI agents, Wed Nov 11 2026. No macro, syntax, notation, axiom, sorry.
-/
import Derived.Test.YtbbjimdpkcgonaaChecked
import GoSem.Claim
import GoSem.ClaimJoined
import GoSem.ClaimMapViews
import Derived.JoinedTies
import Derived.KernelRfl
namespace Go.Proofs.Ytbbjimdpkcgonaa
/- THE CELL 'sum', in the pinned program and in every row, IS THE sha256 OF THE DUMP (.gsa) THAT YtbbjimdpkcgonaaProg.lean LOADS. Nothing in Lean hashes anything: it is a label: what it is worth is what the hold of that sum in a sandbox is worth. -/
noncomputable def Try.pinned : Pinned := { name := "ytbbjimdpkcgonaa", sum := "9d7c8d81d500efaa6e7d58ed8e37d6241a22da574dfc7feab6525b8545f87bc6", checked := Try.checked }
namespace Rows
def none {H : Type} : Left H := { results := [], args := [] }

/-- 'rilllaw16.UsageFills': WHATEVER THE INPUT: true; the input reads as it did. -/
def usageFillsSpec : ChangeSpec := { name := "usageFills", fn := fun _ => fun
  | [d1, d2] => { results := [.lit (.bool true)], args := [d1, d2] }
  | _ => none }
def usageFillsRow : OpenClaim := { program := "ytbbjimdpkcgonaa", sum := "9d7c8d81d500efaa6e7d58ed8e37d6241a22da574dfc7feab6525b8545f87bc6", func := "rill/rilllaw16.UsageFills", spec := "usageFills", unfollowed := true, recurses := true, apart := false }
def UsageFillsSaid : Prop := usageFillsRow.holds Try.pinned (OpenSpec.ofChange usageFillsSpec)

/-- ITS FALSE NEIGHBOUR: 'it returns false'. Refute it at one input. -/
def usageFillsWrong : ChangeSpec := { name := "usageFills", fn := fun _ => fun
  | [d1, d2] => { results := [.lit (.bool false)], args := [d1, d2] }
  | _ => none }
def UsageFillsWrongFalsely : Prop := usageFillsRow.holds Try.pinned (OpenSpec.ofChange usageFillsWrong)

/-- 'rilllaw03.AesTurns': WHATEVER THE INPUT: true; the input reads as it did. -/
def aesTurnsSpec : ChangeSpec := { name := "aesTurns", fn := fun _ => fun
  | [d1, d2] => { results := [.lit (.bool true)], args := [d1, d2] }
  | _ => none }
def aesTurnsRow : OpenClaim := { program := "ytbbjimdpkcgonaa", sum := "9d7c8d81d500efaa6e7d58ed8e37d6241a22da574dfc7feab6525b8545f87bc6", func := "rill/rilllaw03.AesTurns", spec := "aesTurns", apart := false }
def AesTurnsSaid : Prop := aesTurnsRow.holds Try.pinned (OpenSpec.ofChange aesTurnsSpec)

/-- ITS FALSE NEIGHBOUR: 'it returns false'. Refute it at one input. -/
def aesTurnsWrong : ChangeSpec := { name := "aesTurns", fn := fun _ => fun
  | [d1, d2] => { results := [.lit (.bool false)], args := [d1, d2] }
  | _ => none }
def AesTurnsWrongFalsely : Prop := aesTurnsRow.holds Try.pinned (OpenSpec.ofChange aesTurnsWrong)

/-- 'rilllaw03.AesUnlike': WHATEVER THE INPUT: true; the input reads as it did. -/
def aesUnlikeSpec : ChangeSpec := { name := "aesUnlike", fn := fun _ => fun
  | [d1, d2, d3] => { results := [.lit (.bool true)], args := [d1, d2, d3] }
  | _ => none }
def aesUnlikeRow : OpenClaim := { program := "ytbbjimdpkcgonaa", sum := "9d7c8d81d500efaa6e7d58ed8e37d6241a22da574dfc7feab6525b8545f87bc6", func := "rill/rilllaw03.AesUnlike", spec := "aesUnlike", apart := false }
def AesUnlikeSaid : Prop := aesUnlikeRow.holds Try.pinned (OpenSpec.ofChange aesUnlikeSpec)

/-- ITS FALSE NEIGHBOUR: 'it returns false'. Refute it at one input. -/
def aesUnlikeWrong : ChangeSpec := { name := "aesUnlike", fn := fun _ => fun
  | [d1, d2, d3] => { results := [.lit (.bool false)], args := [d1, d2, d3] }
  | _ => none }
def AesUnlikeWrongFalsely : Prop := aesUnlikeRow.holds Try.pinned (OpenSpec.ofChange aesUnlikeWrong)

/-- 'rilllaw03.AesKnown': WHATEVER THE INPUT: true; the input reads as it did. -/
def aesKnownSpec : ChangeSpec := { name := "aesKnown", fn := fun _ => fun
  | [] => { results := [.lit (.bool true)], args := [] }
  | _ => none }
def aesKnownRow : OpenClaim := { program := "ytbbjimdpkcgonaa", sum := "9d7c8d81d500efaa6e7d58ed8e37d6241a22da574dfc7feab6525b8545f87bc6", func := "rill/rilllaw03.AesKnown", spec := "aesKnown", apart := false }
def AesKnownSaid : Prop := aesKnownRow.holds Try.pinned (OpenSpec.ofChange aesKnownSpec)

/-- ITS FALSE NEIGHBOUR: 'it returns false'. Refute it at one input. -/
def aesKnownWrong : ChangeSpec := { name := "aesKnown", fn := fun _ => fun
  | [] => { results := [.lit (.bool false)], args := [] }
  | _ => none }
def AesKnownWrongFalsely : Prop := aesKnownRow.holds Try.pinned (OpenSpec.ofChange aesKnownWrong)

/-- 'rilllaw03.AesOrder': WHATEVER THE INPUT: true; the input reads as it did. -/
def aesOrderSpec : ChangeSpec := { name := "aesOrder", fn := fun _ => fun
  | [d1, d2] => { results := [.lit (.bool true)], args := [d1, d2] }
  | _ => none }
def aesOrderRow : OpenClaim := { program := "ytbbjimdpkcgonaa", sum := "9d7c8d81d500efaa6e7d58ed8e37d6241a22da574dfc7feab6525b8545f87bc6", func := "rill/rilllaw03.AesOrder", spec := "aesOrder", apart := false }
def AesOrderSaid : Prop := aesOrderRow.holds Try.pinned (OpenSpec.ofChange aesOrderSpec)

/-- ITS FALSE NEIGHBOUR: 'it returns false'. Refute it at one input. -/
def aesOrderWrong : ChangeSpec := { name := "aesOrder", fn := fun _ => fun
  | [d1, d2] => { results := [.lit (.bool false)], args := [d1, d2] }
  | _ => none }
def AesOrderWrongFalsely : Prop := aesOrderRow.holds Try.pinned (OpenSpec.ofChange aesOrderWrong)

/-- 'rilllaw16.UsageRuns': WHATEVER THE INPUT: true; the input reads as it did. -/
def usageRunsSpec : ChangeSpec := { name := "usageRuns", fn := fun _ => fun
  | [d1, d2] => { results := [.lit (.bool true)], args := [d1, d2] }
  | _ => none }
def usageRunsRow : OpenClaim := { program := "ytbbjimdpkcgonaa", sum := "9d7c8d81d500efaa6e7d58ed8e37d6241a22da574dfc7feab6525b8545f87bc6", func := "rill/rilllaw16.UsageRuns", spec := "usageRuns", unfollowed := true, recurses := true, apart := false }
def UsageRunsSaid : Prop := usageRunsRow.holds Try.pinned (OpenSpec.ofChange usageRunsSpec)

/-- ITS FALSE NEIGHBOUR: 'it returns false'. Refute it at one input. -/
def usageRunsWrong : ChangeSpec := { name := "usageRuns", fn := fun _ => fun
  | [d1, d2] => { results := [.lit (.bool false)], args := [d1, d2] }
  | _ => none }
def UsageRunsWrongFalsely : Prop := usageRunsRow.holds Try.pinned (OpenSpec.ofChange usageRunsWrong)

/- THE SECOND FORM. 'bulk': how many values and letters a reading holds, each counted each time it is reached (what is shared counts as often as it is met; a slice's spare places count too). A statement '..UptoSaid' is the law's where the arguments, and the package variables that the reading takes, are together of bulk at most 1048576: NARROWER than '..Said'. Prove '..Said' where nothing that the law and all that it calls make is longer than what came in: it says more and counts as full. Else prove '..UptoSaid'. A law counts once. -/
mutual
def uptoBulk {H : Type} : DataW H → Nat
  | .lit (.string bytes) => bytes.length + 1
  | .lit _ => 1
  | .nil => 1
  | .ptr d => uptoBulk d + 1
  | .slice elems spare => uptoBulkAll elems + uptoBulkAll spare + 1
  | .agg parts => uptoBulkAll parts + 1
  | .iface _ d => uptoBulk d + 1
  | .map entries => uptoBulkEntries entries + 1
  | .held _ => 1
def uptoBulkAll {H : Type} : List (DataW H) → Nat
  | [] => 0
  | d :: r => uptoBulk d + uptoBulkAll r
def uptoBulkEntries {H : Type} : List (Lit × DataW H) → Nat
  | [] => 0
  | x :: r => uptoBulkEntry x + uptoBulkEntries r
def uptoBulkEntry {H : Type} : Lit × DataW H → Nat
  | (.string bytes, d) => bytes.length + uptoBulk d + 1
  | (_, d) => uptoBulk d + 1
 end
def uptoSmall : (H : Type) → List (DataW H) → Bool := fun _ ds => decide (uptoBulkAll ds ≤ 1048576)
def OpenSpec.upto (s : _root_.Go.ChangeSpec) : _root_.Go.OpenSpec := { _root_.Go.OpenSpec.ofChange s with cond := some uptoSmall }

/-- 'rilllaw16.UsageFills', WHERE WHAT IT READS IS OF BULK AT MOST 1048576: true; the input reads as it did. -/
def usageFillsUptoRow : OpenClaim := { program := "ytbbjimdpkcgonaa", sum := "9d7c8d81d500efaa6e7d58ed8e37d6241a22da574dfc7feab6525b8545f87bc6", func := "rill/rilllaw16.UsageFills", spec := "usageFills", unfollowed := true, recurses := true, apart := false, narrowed := true }
def UsageFillsUptoSaid : Prop := usageFillsUptoRow.holds Try.pinned (OpenSpec.upto usageFillsSpec)

/-- 'rilllaw03.AesTurns', WHERE WHAT IT READS IS OF BULK AT MOST 1048576: true; the input reads as it did. -/
def aesTurnsUptoRow : OpenClaim := { program := "ytbbjimdpkcgonaa", sum := "9d7c8d81d500efaa6e7d58ed8e37d6241a22da574dfc7feab6525b8545f87bc6", func := "rill/rilllaw03.AesTurns", spec := "aesTurns", apart := false, narrowed := true }
def AesTurnsUptoSaid : Prop := aesTurnsUptoRow.holds Try.pinned (OpenSpec.upto aesTurnsSpec)

/-- 'rilllaw03.AesUnlike', WHERE WHAT IT READS IS OF BULK AT MOST 1048576: true; the input reads as it did. -/
def aesUnlikeUptoRow : OpenClaim := { program := "ytbbjimdpkcgonaa", sum := "9d7c8d81d500efaa6e7d58ed8e37d6241a22da574dfc7feab6525b8545f87bc6", func := "rill/rilllaw03.AesUnlike", spec := "aesUnlike", apart := false, narrowed := true }
def AesUnlikeUptoSaid : Prop := aesUnlikeUptoRow.holds Try.pinned (OpenSpec.upto aesUnlikeSpec)

/-- 'rilllaw03.AesKnown', WHERE WHAT IT READS IS OF BULK AT MOST 1048576: true; the input reads as it did. -/
def aesKnownUptoRow : OpenClaim := { program := "ytbbjimdpkcgonaa", sum := "9d7c8d81d500efaa6e7d58ed8e37d6241a22da574dfc7feab6525b8545f87bc6", func := "rill/rilllaw03.AesKnown", spec := "aesKnown", apart := false, narrowed := true }
def AesKnownUptoSaid : Prop := aesKnownUptoRow.holds Try.pinned (OpenSpec.upto aesKnownSpec)

/-- 'rilllaw03.AesOrder', WHERE WHAT IT READS IS OF BULK AT MOST 1048576: true; the input reads as it did. -/
def aesOrderUptoRow : OpenClaim := { program := "ytbbjimdpkcgonaa", sum := "9d7c8d81d500efaa6e7d58ed8e37d6241a22da574dfc7feab6525b8545f87bc6", func := "rill/rilllaw03.AesOrder", spec := "aesOrder", apart := false, narrowed := true }
def AesOrderUptoSaid : Prop := aesOrderUptoRow.holds Try.pinned (OpenSpec.upto aesOrderSpec)

/-- 'rilllaw16.UsageRuns', WHERE WHAT IT READS IS OF BULK AT MOST 1048576: true; the input reads as it did. -/
def usageRunsUptoRow : OpenClaim := { program := "ytbbjimdpkcgonaa", sum := "9d7c8d81d500efaa6e7d58ed8e37d6241a22da574dfc7feab6525b8545f87bc6", func := "rill/rilllaw16.UsageRuns", spec := "usageRuns", unfollowed := true, recurses := true, apart := false, narrowed := true }
def UsageRunsUptoSaid : Prop := usageRunsUptoRow.holds Try.pinned (OpenSpec.upto usageRunsSpec)

end Rows
end Go.Proofs.Ytbbjimdpkcgonaa
