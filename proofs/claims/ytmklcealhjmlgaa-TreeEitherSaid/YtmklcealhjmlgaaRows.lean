/-
  No cell of these rows narrows 'for every input' (looked for: loops, veiled, ifaces, maps, wideKeys, modest, calm, conditions, laid).
  DERIVED. THE GIVEN ROWS OF THIS SEAT. 6 by the template 'for every input the law returns true; each argument reads behind the call as it read before'; 0 by the template 'total and deterministic' (their statements: YtmklcealhjmlgaaTotals.lean).
  GIVEN WITH THE SEED: the statements are not yours to turn. If you find one false, say at which input.
  Laid BY PROGRAM, IN A SANDBOX (cutbox-rows.mjs): the forced cells as the released guide's own fill.sh prints them over the translation 3cad30ffa6045110… (all of the seat's roots in one cut). By AI agents, Wed Nov 11 2026. No macro, syntax, notation, axiom, sorry.
-/
import Derived.Test.YtmklcealhjmlgaaChecked
import GoSem.Claim
import GoSem.ClaimJoined
import GoSem.ClaimMapViews
import Derived.JoinedTies
import Derived.KernelRfl
namespace Go.Proofs.Ytmklcealhjmlgaa
/- THE CELL 'sum', in the pinned program and in every row, IS THE sha256 OF THE DUMP (.gsa) THAT YtmklcealhjmlgaaProg.lean LOADS. Nothing in Lean hashes anything: it is a label: what it is worth is what the hold of that sum in a sandbox is worth. -/
noncomputable def Try.pinned : Pinned := { name := "ytmklcealhjmlgaa", sum := "3cad30ffa6045110ba87b38e8597c745fc5acd0cfaecd2fb97c0b545ff151252", checked := Try.checked }
namespace Rows
def none {H : Type} : Left H := { results := [], args := [] }

/-- 'rilllaw18.TreeAccounts': WHATEVER THE INPUT: true; the input reads as it did. -/
def treeAccountsSpec : ChangeSpec := { name := "treeAccounts", fn := fun _ => fun
  | [d] => { results := [.lit (.bool true)], args := [d] }
  | _ => none }
def treeAccountsRow : OpenClaim := { program := "ytmklcealhjmlgaa", sum := "3cad30ffa6045110ba87b38e8597c745fc5acd0cfaecd2fb97c0b545ff151252", func := "rill/rilllaw18.TreeAccounts", spec := "treeAccounts", unfollowed := true, recurses := true, apart := false }
def TreeAccountsSaid : Prop := treeAccountsRow.holds Try.pinned (OpenSpec.ofChange treeAccountsSpec)

/-- ITS FALSE NEIGHBOUR: 'it returns false'. Refute it at one input. -/
def treeAccountsWrong : ChangeSpec := { name := "treeAccounts", fn := fun _ => fun
  | [d] => { results := [.lit (.bool false)], args := [d] }
  | _ => none }
def TreeAccountsWrongFalsely : Prop := treeAccountsRow.holds Try.pinned (OpenSpec.ofChange treeAccountsWrong)

/-- 'rilllaw18.TreeHolds': WHATEVER THE INPUT: true; the input reads as it did. -/
def treeHoldsSpec : ChangeSpec := { name := "treeHolds", fn := fun _ => fun
  | [d] => { results := [.lit (.bool true)], args := [d] }
  | _ => none }
def treeHoldsRow : OpenClaim := { program := "ytmklcealhjmlgaa", sum := "3cad30ffa6045110ba87b38e8597c745fc5acd0cfaecd2fb97c0b545ff151252", func := "rill/rilllaw18.TreeHolds", spec := "treeHolds", unfollowed := true, recurses := true, apart := false }
def TreeHoldsSaid : Prop := treeHoldsRow.holds Try.pinned (OpenSpec.ofChange treeHoldsSpec)

/-- ITS FALSE NEIGHBOUR: 'it returns false'. Refute it at one input. -/
def treeHoldsWrong : ChangeSpec := { name := "treeHolds", fn := fun _ => fun
  | [d] => { results := [.lit (.bool false)], args := [d] }
  | _ => none }
def TreeHoldsWrongFalsely : Prop := treeHoldsRow.holds Try.pinned (OpenSpec.ofChange treeHoldsWrong)

/-- 'rilllaw18.TreeEither': WHATEVER THE INPUT: true; the input reads as it did. -/
def treeEitherSpec : ChangeSpec := { name := "treeEither", fn := fun _ => fun
  | [d1, d2, d3, d4, d5] => { results := [.lit (.bool true)], args := [d1, d2, d3, d4, d5] }
  | _ => none }
def treeEitherRow : OpenClaim := { program := "ytmklcealhjmlgaa", sum := "3cad30ffa6045110ba87b38e8597c745fc5acd0cfaecd2fb97c0b545ff151252", func := "rill/rilllaw18.TreeEither", spec := "treeEither", unfollowed := true, recurses := true, apart := false }
def TreeEitherSaid : Prop := treeEitherRow.holds Try.pinned (OpenSpec.ofChange treeEitherSpec)

/-- ITS FALSE NEIGHBOUR: 'it returns false'. Refute it at one input. -/
def treeEitherWrong : ChangeSpec := { name := "treeEither", fn := fun _ => fun
  | [d1, d2, d3, d4, d5] => { results := [.lit (.bool false)], args := [d1, d2, d3, d4, d5] }
  | _ => none }
def TreeEitherWrongFalsely : Prop := treeEitherRow.holds Try.pinned (OpenSpec.ofChange treeEitherWrong)

/-- 'rilllaw18.TreeBack': WHATEVER THE INPUT: true; the input reads as it did. -/
def treeBackSpec : ChangeSpec := { name := "treeBack", fn := fun _ => fun
  | [d1, d2] => { results := [.lit (.bool true)], args := [d1, d2] }
  | _ => none }
def treeBackRow : OpenClaim := { program := "ytmklcealhjmlgaa", sum := "3cad30ffa6045110ba87b38e8597c745fc5acd0cfaecd2fb97c0b545ff151252", func := "rill/rilllaw18.TreeBack", spec := "treeBack", unfollowed := true, recurses := true, apart := false }
def TreeBackSaid : Prop := treeBackRow.holds Try.pinned (OpenSpec.ofChange treeBackSpec)

/-- ITS FALSE NEIGHBOUR: 'it returns false'. Refute it at one input. -/
def treeBackWrong : ChangeSpec := { name := "treeBack", fn := fun _ => fun
  | [d1, d2] => { results := [.lit (.bool false)], args := [d1, d2] }
  | _ => none }
def TreeBackWrongFalsely : Prop := treeBackRow.holds Try.pinned (OpenSpec.ofChange treeBackWrong)

/-- 'rilllaw18.TreeRuns': WHATEVER THE INPUT: true; the input reads as it did. -/
def treeRunsSpec : ChangeSpec := { name := "treeRuns", fn := fun _ => fun
  | [d] => { results := [.lit (.bool true)], args := [d] }
  | _ => none }
def treeRunsRow : OpenClaim := { program := "ytmklcealhjmlgaa", sum := "3cad30ffa6045110ba87b38e8597c745fc5acd0cfaecd2fb97c0b545ff151252", func := "rill/rilllaw18.TreeRuns", spec := "treeRuns", unfollowed := true, recurses := true, apart := false }
def TreeRunsSaid : Prop := treeRunsRow.holds Try.pinned (OpenSpec.ofChange treeRunsSpec)

/-- ITS FALSE NEIGHBOUR: 'it returns false'. Refute it at one input. -/
def treeRunsWrong : ChangeSpec := { name := "treeRuns", fn := fun _ => fun
  | [d] => { results := [.lit (.bool false)], args := [d] }
  | _ => none }
def TreeRunsWrongFalsely : Prop := treeRunsRow.holds Try.pinned (OpenSpec.ofChange treeRunsWrong)

/-- 'rilllaw18.TreeKnown': WHATEVER THE INPUT: true; the input reads as it did. -/
def treeKnownSpec : ChangeSpec := { name := "treeKnown", fn := fun _ => fun
  | [] => { results := [.lit (.bool true)], args := [] }
  | _ => none }
def treeKnownRow : OpenClaim := { program := "ytmklcealhjmlgaa", sum := "3cad30ffa6045110ba87b38e8597c745fc5acd0cfaecd2fb97c0b545ff151252", func := "rill/rilllaw18.TreeKnown", spec := "treeKnown", unfollowed := true, recurses := true, apart := false }
def TreeKnownSaid : Prop := treeKnownRow.holds Try.pinned (OpenSpec.ofChange treeKnownSpec)

/-- ITS FALSE NEIGHBOUR: 'it returns false'. Refute it at one input. -/
def treeKnownWrong : ChangeSpec := { name := "treeKnown", fn := fun _ => fun
  | [] => { results := [.lit (.bool false)], args := [] }
  | _ => none }
def TreeKnownWrongFalsely : Prop := treeKnownRow.holds Try.pinned (OpenSpec.ofChange treeKnownWrong)

/- THE SECOND FORM. 'bulk': how many values and letters a reading holds, each counted each time it is reached (what is shared counts as often as it is met; a slice's spare places count too). A statement '..UptoSaid' is the law's where the arguments, and the package variables that the reading takes, are together of bulk at most 1048576: NARROWER than '..Said'. Prove '..Said' where nothing that the law and all that it calls make is longer than what came in: it says more and counts as full. Else prove '..UptoSaid'. A law counts once. -/
mutual
def uptoBulk {H : Type} : DataW H → Nat
  | .lit (.string bytes) => bytes.length + 1
  | .lit _ => 1
  | .nil => 1
  | .ptr d => uptoBulk d + 1
  | .slice elems spare => uptoBulkAll elems + uptoBulkAll spare + 1
  | .agg parts => uptoBulkAll parts + 1
  | .iface _ d => uptoBulk d + 1
  | .map entries => uptoBulkEntries entries + 1
  | .held _ => 1
def uptoBulkAll {H : Type} : List (DataW H) → Nat
  | [] => 0
  | d :: r => uptoBulk d + uptoBulkAll r
def uptoBulkEntries {H : Type} : List (Lit × DataW H) → Nat
  | [] => 0
  | x :: r => uptoBulkEntry x + uptoBulkEntries r
def uptoBulkEntry {H : Type} : Lit × DataW H → Nat
  | (.string bytes, d) => bytes.length + uptoBulk d + 1
  | (_, d) => uptoBulk d + 1
 end
def uptoSmall : (H : Type) → List (DataW H) → Bool := fun _ ds => decide (uptoBulkAll ds ≤ 1048576)
def OpenSpec.upto (s : _root_.Go.ChangeSpec) : _root_.Go.OpenSpec := { _root_.Go.OpenSpec.ofChange s with cond := some uptoSmall }

/-- 'rilllaw18.TreeAccounts', WHERE WHAT IT READS IS OF BULK AT MOST 1048576: true; the input reads as it did. -/
def treeAccountsUptoRow : OpenClaim := { program := "ytmklcealhjmlgaa", sum := "3cad30ffa6045110ba87b38e8597c745fc5acd0cfaecd2fb97c0b545ff151252", func := "rill/rilllaw18.TreeAccounts", spec := "treeAccounts", unfollowed := true, recurses := true, apart := false, narrowed := true }
def TreeAccountsUptoSaid : Prop := treeAccountsUptoRow.holds Try.pinned (OpenSpec.upto treeAccountsSpec)

/-- 'rilllaw18.TreeHolds', WHERE WHAT IT READS IS OF BULK AT MOST 1048576: true; the input reads as it did. -/
def treeHoldsUptoRow : OpenClaim := { program := "ytmklcealhjmlgaa", sum := "3cad30ffa6045110ba87b38e8597c745fc5acd0cfaecd2fb97c0b545ff151252", func := "rill/rilllaw18.TreeHolds", spec := "treeHolds", unfollowed := true, recurses := true, apart := false, narrowed := true }
def TreeHoldsUptoSaid : Prop := treeHoldsUptoRow.holds Try.pinned (OpenSpec.upto treeHoldsSpec)

/-- 'rilllaw18.TreeEither', WHERE WHAT IT READS IS OF BULK AT MOST 1048576: true; the input reads as it did. -/
def treeEitherUptoRow : OpenClaim := { program := "ytmklcealhjmlgaa", sum := "3cad30ffa6045110ba87b38e8597c745fc5acd0cfaecd2fb97c0b545ff151252", func := "rill/rilllaw18.TreeEither", spec := "treeEither", unfollowed := true, recurses := true, apart := false, narrowed := true }
def TreeEitherUptoSaid : Prop := treeEitherUptoRow.holds Try.pinned (OpenSpec.upto treeEitherSpec)

/-- 'rilllaw18.TreeBack', WHERE WHAT IT READS IS OF BULK AT MOST 1048576: true; the input reads as it did. -/
def treeBackUptoRow : OpenClaim := { program := "ytmklcealhjmlgaa", sum := "3cad30ffa6045110ba87b38e8597c745fc5acd0cfaecd2fb97c0b545ff151252", func := "rill/rilllaw18.TreeBack", spec := "treeBack", unfollowed := true, recurses := true, apart := false, narrowed := true }
def TreeBackUptoSaid : Prop := treeBackUptoRow.holds Try.pinned (OpenSpec.upto treeBackSpec)

/-- 'rilllaw18.TreeRuns', WHERE WHAT IT READS IS OF BULK AT MOST 1048576: true; the input reads as it did. -/
def treeRunsUptoRow : OpenClaim := { program := "ytmklcealhjmlgaa", sum := "3cad30ffa6045110ba87b38e8597c745fc5acd0cfaecd2fb97c0b545ff151252", func := "rill/rilllaw18.TreeRuns", spec := "treeRuns", unfollowed := true, recurses := true, apart := false, narrowed := true }
def TreeRunsUptoSaid : Prop := treeRunsUptoRow.holds Try.pinned (OpenSpec.upto treeRunsSpec)

/-- 'rilllaw18.TreeKnown', WHERE WHAT IT READS IS OF BULK AT MOST 1048576: true; the input reads as it did. -/
def treeKnownUptoRow : OpenClaim := { program := "ytmklcealhjmlgaa", sum := "3cad30ffa6045110ba87b38e8597c745fc5acd0cfaecd2fb97c0b545ff151252", func := "rill/rilllaw18.TreeKnown", spec := "treeKnown", unfollowed := true, recurses := true, apart := false, narrowed := true }
def TreeKnownUptoSaid : Prop := treeKnownUptoRow.holds Try.pinned (OpenSpec.upto treeKnownSpec)

end Rows
end Go.Proofs.Ytmklcealhjmlgaa
