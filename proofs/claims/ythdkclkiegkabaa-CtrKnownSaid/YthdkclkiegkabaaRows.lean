/-
  No cell of these rows narrows 'for every input' (looked for: loops, veiled, ifaces, maps, wideKeys, modest, calm, conditions, laid).
  DERIVED. THE GIVEN ROWS OF THIS SEAT. 5 by the template 'for every input the law returns true; each argument reads behind the call as it read before'; 0 by the template 'total and deterministic' (their statements: YthdkclkiegkabaaTotals.lean).
  GIVEN WITH THE SEED: the statements are not yours to turn. If you find one false, say at which input.
  Laid BY PROGRAM, IN A SANDBOX (cutbox-rows.mjs): the forced cells as the released guide's own fill.sh prints them over the translation 15c24b8e52ac49d2… (all of the seat's roots in one cut). By AI agents, Wed Nov 11 2026. No macro, syntax, notation, axiom, sorry.
-/
import Derived.Test.YthdkclkiegkabaaChecked
import GoSem.Claim
import GoSem.ClaimJoined
import GoSem.ClaimMapViews
import Derived.JoinedTies
import Derived.KernelRfl
namespace Go.Proofs.Ythdkclkiegkabaa
/- THE CELL 'sum', in the pinned program and in every row, IS THE sha256 OF THE DUMP (.gsa) THAT YthdkclkiegkabaaProg.lean LOADS. Nothing in Lean hashes anything: it is a label: what it is worth is what the hold of that sum in a sandbox is worth. -/
noncomputable def Try.pinned : Pinned := { name := "ythdkclkiegkabaa", sum := "15c24b8e52ac49d227c2e392468875dcb50f85a7576516a849dc8ef7bc4f071d", checked := Try.checked }
namespace Rows
def none {H : Type} : Left H := { results := [], args := [] }

/-- 'rilllaw04.CtrTurns': WHATEVER THE INPUT: true; the input reads as it did. -/
def ctrTurnsSpec : ChangeSpec := { name := "ctrTurns", fn := fun _ => fun
  | [d1, d2, d3, d4] => { results := [.lit (.bool true)], args := [d1, d2, d3, d4] }
  | _ => none }
def ctrTurnsRow : OpenClaim := { program := "ythdkclkiegkabaa", sum := "15c24b8e52ac49d227c2e392468875dcb50f85a7576516a849dc8ef7bc4f071d", func := "rill/rilllaw04.CtrTurns", spec := "ctrTurns", unfollowed := true, recurses := true, apart := false }
def CtrTurnsSaid : Prop := ctrTurnsRow.holds Try.pinned (OpenSpec.ofChange ctrTurnsSpec)

/-- ITS FALSE NEIGHBOUR: 'it returns false'. Refute it at one input. -/
def ctrTurnsWrong : ChangeSpec := { name := "ctrTurns", fn := fun _ => fun
  | [d1, d2, d3, d4] => { results := [.lit (.bool false)], args := [d1, d2, d3, d4] }
  | _ => none }
def CtrTurnsWrongFalsely : Prop := ctrTurnsRow.holds Try.pinned (OpenSpec.ofChange ctrTurnsWrong)

/-- 'rilllaw04.CtrBack': WHATEVER THE INPUT: true; the input reads as it did. -/
def ctrBackSpec : ChangeSpec := { name := "ctrBack", fn := fun _ => fun
  | [d1, d2, d3, d4] => { results := [.lit (.bool true)], args := [d1, d2, d3, d4] }
  | _ => none }
def ctrBackRow : OpenClaim := { program := "ythdkclkiegkabaa", sum := "15c24b8e52ac49d227c2e392468875dcb50f85a7576516a849dc8ef7bc4f071d", func := "rill/rilllaw04.CtrBack", spec := "ctrBack", unfollowed := true, recurses := true, apart := false }
def CtrBackSaid : Prop := ctrBackRow.holds Try.pinned (OpenSpec.ofChange ctrBackSpec)

/-- ITS FALSE NEIGHBOUR: 'it returns false'. Refute it at one input. -/
def ctrBackWrong : ChangeSpec := { name := "ctrBack", fn := fun _ => fun
  | [d1, d2, d3, d4] => { results := [.lit (.bool false)], args := [d1, d2, d3, d4] }
  | _ => none }
def CtrBackWrongFalsely : Prop := ctrBackRow.holds Try.pinned (OpenSpec.ofChange ctrBackWrong)

/-- 'rilllaw04.CtrCut': WHATEVER THE INPUT: true; the input reads as it did. -/
def ctrCutSpec : ChangeSpec := { name := "ctrCut", fn := fun _ => fun
  | [d1, d2, d3, d4, d5] => { results := [.lit (.bool true)], args := [d1, d2, d3, d4, d5] }
  | _ => none }
def ctrCutRow : OpenClaim := { program := "ythdkclkiegkabaa", sum := "15c24b8e52ac49d227c2e392468875dcb50f85a7576516a849dc8ef7bc4f071d", func := "rill/rilllaw04.CtrCut", spec := "ctrCut", unfollowed := true, recurses := true, apart := false }
def CtrCutSaid : Prop := ctrCutRow.holds Try.pinned (OpenSpec.ofChange ctrCutSpec)

/-- ITS FALSE NEIGHBOUR: 'it returns false'. Refute it at one input. -/
def ctrCutWrong : ChangeSpec := { name := "ctrCut", fn := fun _ => fun
  | [d1, d2, d3, d4, d5] => { results := [.lit (.bool false)], args := [d1, d2, d3, d4, d5] }
  | _ => none }
def CtrCutWrongFalsely : Prop := ctrCutRow.holds Try.pinned (OpenSpec.ofChange ctrCutWrong)

/-- 'rilllaw04.CtrKnown': WHATEVER THE INPUT: true; the input reads as it did. -/
def ctrKnownSpec : ChangeSpec := { name := "ctrKnown", fn := fun _ => fun
  | [] => { results := [.lit (.bool true)], args := [] }
  | _ => none }
def ctrKnownRow : OpenClaim := { program := "ythdkclkiegkabaa", sum := "15c24b8e52ac49d227c2e392468875dcb50f85a7576516a849dc8ef7bc4f071d", func := "rill/rilllaw04.CtrKnown", spec := "ctrKnown", unfollowed := true, recurses := true, apart := false }
def CtrKnownSaid : Prop := ctrKnownRow.holds Try.pinned (OpenSpec.ofChange ctrKnownSpec)

/-- ITS FALSE NEIGHBOUR: 'it returns false'. Refute it at one input. -/
def ctrKnownWrong : ChangeSpec := { name := "ctrKnown", fn := fun _ => fun
  | [] => { results := [.lit (.bool false)], args := [] }
  | _ => none }
def CtrKnownWrongFalsely : Prop := ctrKnownRow.holds Try.pinned (OpenSpec.ofChange ctrKnownWrong)

/-- 'rilllaw04.CtrBoth': WHATEVER THE INPUT: true; the input reads as it did. -/
def ctrBothSpec : ChangeSpec := { name := "ctrBoth", fn := fun _ => fun
  | [d1, d2, d3, d4, d5] => { results := [.lit (.bool true)], args := [d1, d2, d3, d4, d5] }
  | _ => none }
def ctrBothRow : OpenClaim := { program := "ythdkclkiegkabaa", sum := "15c24b8e52ac49d227c2e392468875dcb50f85a7576516a849dc8ef7bc4f071d", func := "rill/rilllaw04.CtrBoth", spec := "ctrBoth", unfollowed := true, recurses := true, apart := false }
def CtrBothSaid : Prop := ctrBothRow.holds Try.pinned (OpenSpec.ofChange ctrBothSpec)

/-- ITS FALSE NEIGHBOUR: 'it returns false'. Refute it at one input. -/
def ctrBothWrong : ChangeSpec := { name := "ctrBoth", fn := fun _ => fun
  | [d1, d2, d3, d4, d5] => { results := [.lit (.bool false)], args := [d1, d2, d3, d4, d5] }
  | _ => none }
def CtrBothWrongFalsely : Prop := ctrBothRow.holds Try.pinned (OpenSpec.ofChange ctrBothWrong)

/- THE SECOND FORM. 'bulk': how many values and letters a reading holds, each counted each time it is reached (what is shared counts as often as it is met; a slice's spare places count too). A statement '..UptoSaid' is the law's where the arguments, and the package variables that the reading takes, are together of bulk at most 1048576: NARROWER than '..Said'. Prove '..Said' where nothing that the law and all that it calls make is longer than what came in: it says more and counts as full. Else prove '..UptoSaid'. A law counts once. -/
mutual
def uptoBulk {H : Type} : DataW H → Nat
  | .lit (.string bytes) => bytes.length + 1
  | .lit _ => 1
  | .nil => 1
  | .ptr d => uptoBulk d + 1
  | .slice elems spare => uptoBulkAll elems + uptoBulkAll spare + 1
  | .agg parts => uptoBulkAll parts + 1
  | .iface _ d => uptoBulk d + 1
  | .map entries => uptoBulkEntries entries + 1
  | .held _ => 1
def uptoBulkAll {H : Type} : List (DataW H) → Nat
  | [] => 0
  | d :: r => uptoBulk d + uptoBulkAll r
def uptoBulkEntries {H : Type} : List (Lit × DataW H) → Nat
  | [] => 0
  | x :: r => uptoBulkEntry x + uptoBulkEntries r
def uptoBulkEntry {H : Type} : Lit × DataW H → Nat
  | (.string bytes, d) => bytes.length + uptoBulk d + 1
  | (_, d) => uptoBulk d + 1
 end
def uptoSmall : (H : Type) → List (DataW H) → Bool := fun _ ds => decide (uptoBulkAll ds ≤ 1048576)
def OpenSpec.upto (s : _root_.Go.ChangeSpec) : _root_.Go.OpenSpec := { _root_.Go.OpenSpec.ofChange s with cond := some uptoSmall }

/-- 'rilllaw04.CtrTurns', WHERE WHAT IT READS IS OF BULK AT MOST 1048576: true; the input reads as it did. -/
def ctrTurnsUptoRow : OpenClaim := { program := "ythdkclkiegkabaa", sum := "15c24b8e52ac49d227c2e392468875dcb50f85a7576516a849dc8ef7bc4f071d", func := "rill/rilllaw04.CtrTurns", spec := "ctrTurns", unfollowed := true, recurses := true, apart := false, narrowed := true }
def CtrTurnsUptoSaid : Prop := ctrTurnsUptoRow.holds Try.pinned (OpenSpec.upto ctrTurnsSpec)

/-- 'rilllaw04.CtrBack', WHERE WHAT IT READS IS OF BULK AT MOST 1048576: true; the input reads as it did. -/
def ctrBackUptoRow : OpenClaim := { program := "ythdkclkiegkabaa", sum := "15c24b8e52ac49d227c2e392468875dcb50f85a7576516a849dc8ef7bc4f071d", func := "rill/rilllaw04.CtrBack", spec := "ctrBack", unfollowed := true, recurses := true, apart := false, narrowed := true }
def CtrBackUptoSaid : Prop := ctrBackUptoRow.holds Try.pinned (OpenSpec.upto ctrBackSpec)

/-- 'rilllaw04.CtrCut', WHERE WHAT IT READS IS OF BULK AT MOST 1048576: true; the input reads as it did. -/
def ctrCutUptoRow : OpenClaim := { program := "ythdkclkiegkabaa", sum := "15c24b8e52ac49d227c2e392468875dcb50f85a7576516a849dc8ef7bc4f071d", func := "rill/rilllaw04.CtrCut", spec := "ctrCut", unfollowed := true, recurses := true, apart := false, narrowed := true }
def CtrCutUptoSaid : Prop := ctrCutUptoRow.holds Try.pinned (OpenSpec.upto ctrCutSpec)

/-- 'rilllaw04.CtrKnown', WHERE WHAT IT READS IS OF BULK AT MOST 1048576: true; the input reads as it did. -/
def ctrKnownUptoRow : OpenClaim := { program := "ythdkclkiegkabaa", sum := "15c24b8e52ac49d227c2e392468875dcb50f85a7576516a849dc8ef7bc4f071d", func := "rill/rilllaw04.CtrKnown", spec := "ctrKnown", unfollowed := true, recurses := true, apart := false, narrowed := true }
def CtrKnownUptoSaid : Prop := ctrKnownUptoRow.holds Try.pinned (OpenSpec.upto ctrKnownSpec)

/-- 'rilllaw04.CtrBoth', WHERE WHAT IT READS IS OF BULK AT MOST 1048576: true; the input reads as it did. -/
def ctrBothUptoRow : OpenClaim := { program := "ythdkclkiegkabaa", sum := "15c24b8e52ac49d227c2e392468875dcb50f85a7576516a849dc8ef7bc4f071d", func := "rill/rilllaw04.CtrBoth", spec := "ctrBoth", unfollowed := true, recurses := true, apart := false, narrowed := true }
def CtrBothUptoSaid : Prop := ctrBothUptoRow.holds Try.pinned (OpenSpec.upto ctrBothSpec)

end Rows
end Go.Proofs.Ythdkclkiegkabaa
