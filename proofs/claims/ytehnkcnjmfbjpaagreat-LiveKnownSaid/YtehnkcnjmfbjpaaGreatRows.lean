/-
  No cell of these rows narrows 'for every input' (looked for: loops, veiled, ifaces, maps, wideKeys, modest, calm, conditions, laid).
  DERIVED. THE GIVEN ROWS OF THIS SEAT. 4 by the template 'for every input the law returns true; each argument reads behind the call as it read before'; 0 by the template 'total and deterministic' (their statements: YtehnkcnjmfbjpaaGreatTotals.lean).
  GIVEN WITH THE SEED: the statements are not yours to turn. If you find one false, say at which input.
  Laid BY PROGRAM, IN A SANDBOX (cutbox-rows.mjs): the forced cells as the released guide's own fill.sh prints them over the translation 720ba59c25cc3191… (all of the seat's roots in one cut). By AI agents, Wed Nov 11 2026. No macro, syntax, notation, axiom, sorry.
-/
import Derived.Test.YtehnkcnjmfbjpaaGreatChecked
import GoSem.Claim
import GoSem.ClaimJoined
import GoSem.ClaimMapViews
import Derived.JoinedTies
import Derived.KernelRfl
namespace Go.Proofs.YtehnkcnjmfbjpaaGreat
/- THE CELL 'sum', in the pinned program and in every row, IS THE sha256 OF THE DUMP (.gsa) THAT YtehnkcnjmfbjpaaGreatProg.lean LOADS. Nothing in Lean hashes anything: it is a label: what it is worth is what the hold of that sum in a sandbox is worth. -/
noncomputable def Tryz.pinned : Pinned := { name := "ytehnkcnjmfbjpaagreat", sum := "720ba59c25cc3191604c8599c9c26737148f7191264098556da8748b40af2a42", checked := Tryz.checked }
namespace Rows
def none {H : Type} : Left H := { results := [], args := [] }

/-- 'rilllaw23.LiveCopies': WHATEVER THE INPUT: true; the input reads as it did. -/
def liveCopiesSpec : ChangeSpec := { name := "liveCopies", fn := fun _ => fun
  | [d1, d2] => { results := [.lit (.bool true)], args := [d1, d2] }
  | _ => none }
def liveCopiesRow : OpenClaim := { program := "ytehnkcnjmfbjpaagreat", sum := "720ba59c25cc3191604c8599c9c26737148f7191264098556da8748b40af2a42", func := "rill/rilllaw23.LiveCopies", spec := "liveCopies", unfollowed := true, recurses := true, plainKeys := false, apart := false }
def LiveCopiesSaid : Prop := liveCopiesRow.holds Tryz.pinned (OpenSpec.ofChange liveCopiesSpec)

/-- ITS FALSE NEIGHBOUR: 'it returns false'. Refute it at one input. -/
def liveCopiesWrong : ChangeSpec := { name := "liveCopies", fn := fun _ => fun
  | [d1, d2] => { results := [.lit (.bool false)], args := [d1, d2] }
  | _ => none }
def LiveCopiesWrongFalsely : Prop := liveCopiesRow.holds Tryz.pinned (OpenSpec.ofChange liveCopiesWrong)

/-- 'rilllaw23.LiveSpoilt': WHATEVER THE INPUT: true; the input reads as it did. -/
def liveSpoiltSpec : ChangeSpec := { name := "liveSpoilt", fn := fun _ => fun
  | [d1, d2, d3] => { results := [.lit (.bool true)], args := [d1, d2, d3] }
  | _ => none }
def liveSpoiltRow : OpenClaim := { program := "ytehnkcnjmfbjpaagreat", sum := "720ba59c25cc3191604c8599c9c26737148f7191264098556da8748b40af2a42", func := "rill/rilllaw23.LiveSpoilt", spec := "liveSpoilt", unfollowed := true, recurses := true, plainKeys := false, apart := false }
def LiveSpoiltSaid : Prop := liveSpoiltRow.holds Tryz.pinned (OpenSpec.ofChange liveSpoiltSpec)

/-- ITS FALSE NEIGHBOUR: 'it returns false'. Refute it at one input. -/
def liveSpoiltWrong : ChangeSpec := { name := "liveSpoilt", fn := fun _ => fun
  | [d1, d2, d3] => { results := [.lit (.bool false)], args := [d1, d2, d3] }
  | _ => none }
def LiveSpoiltWrongFalsely : Prop := liveSpoiltRow.holds Tryz.pinned (OpenSpec.ofChange liveSpoiltWrong)

/-- 'rilllaw23.LiveKnown': WHATEVER THE INPUT: true; the input reads as it did. -/
def liveKnownSpec : ChangeSpec := { name := "liveKnown", fn := fun _ => fun
  | [] => { results := [.lit (.bool true)], args := [] }
  | _ => none }
def liveKnownRow : OpenClaim := { program := "ytehnkcnjmfbjpaagreat", sum := "720ba59c25cc3191604c8599c9c26737148f7191264098556da8748b40af2a42", func := "rill/rilllaw23.LiveKnown", spec := "liveKnown", unfollowed := true, recurses := true, plainKeys := false, apart := false }
def LiveKnownSaid : Prop := liveKnownRow.holds Tryz.pinned (OpenSpec.ofChange liveKnownSpec)

/-- ITS FALSE NEIGHBOUR: 'it returns false'. Refute it at one input. -/
def liveKnownWrong : ChangeSpec := { name := "liveKnown", fn := fun _ => fun
  | [] => { results := [.lit (.bool false)], args := [] }
  | _ => none }
def LiveKnownWrongFalsely : Prop := liveKnownRow.holds Tryz.pinned (OpenSpec.ofChange liveKnownWrong)

/-- 'rilllaw23.LiveCounts': WHATEVER THE INPUT: true; the input reads as it did. -/
def liveCountsSpec : ChangeSpec := { name := "liveCounts", fn := fun _ => fun
  | [d] => { results := [.lit (.bool true)], args := [d] }
  | _ => none }
def liveCountsRow : OpenClaim := { program := "ytehnkcnjmfbjpaagreat", sum := "720ba59c25cc3191604c8599c9c26737148f7191264098556da8748b40af2a42", func := "rill/rilllaw23.LiveCounts", spec := "liveCounts", unfollowed := true, recurses := true, plainKeys := false, apart := false }
def LiveCountsSaid : Prop := liveCountsRow.holds Tryz.pinned (OpenSpec.ofChange liveCountsSpec)

/-- ITS FALSE NEIGHBOUR: 'it returns false'. Refute it at one input. -/
def liveCountsWrong : ChangeSpec := { name := "liveCounts", fn := fun _ => fun
  | [d] => { results := [.lit (.bool false)], args := [d] }
  | _ => none }
def LiveCountsWrongFalsely : Prop := liveCountsRow.holds Tryz.pinned (OpenSpec.ofChange liveCountsWrong)

/- THE SECOND FORM. 'bulk': how many values and letters a reading holds, each counted each time it is reached (what is shared counts as often as it is met; a slice's spare places count too). A statement '..UptoSaid' is the law's where the arguments, and the package variables that the reading takes, are together of bulk at most 1048576: NARROWER than '..Said'. Prove '..Said' where nothing that the law and all that it calls make is longer than what came in: it says more and counts as full. Else prove '..UptoSaid'. A law counts once. -/
mutual
def uptoBulk {H : Type} : DataW H → Nat
  | .lit (.string bytes) => bytes.length + 1
  | .lit _ => 1
  | .nil => 1
  | .ptr d => uptoBulk d + 1
  | .slice elems spare => uptoBulkAll elems + uptoBulkAll spare + 1
  | .agg parts => uptoBulkAll parts + 1
  | .iface _ d => uptoBulk d + 1
  | .map entries => uptoBulkEntries entries + 1
  | .held _ => 1
def uptoBulkAll {H : Type} : List (DataW H) → Nat
  | [] => 0
  | d :: r => uptoBulk d + uptoBulkAll r
def uptoBulkEntries {H : Type} : List (Lit × DataW H) → Nat
  | [] => 0
  | x :: r => uptoBulkEntry x + uptoBulkEntries r
def uptoBulkEntry {H : Type} : Lit × DataW H → Nat
  | (.string bytes, d) => bytes.length + uptoBulk d + 1
  | (_, d) => uptoBulk d + 1
 end
def uptoSmall : (H : Type) → List (DataW H) → Bool := fun _ ds => decide (uptoBulkAll ds ≤ 1048576)
def OpenSpec.upto (s : _root_.Go.ChangeSpec) : _root_.Go.OpenSpec := { _root_.Go.OpenSpec.ofChange s with cond := some uptoSmall }

/-- 'rilllaw23.LiveCopies', WHERE WHAT IT READS IS OF BULK AT MOST 1048576: true; the input reads as it did. -/
def liveCopiesUptoRow : OpenClaim := { program := "ytehnkcnjmfbjpaagreat", sum := "720ba59c25cc3191604c8599c9c26737148f7191264098556da8748b40af2a42", func := "rill/rilllaw23.LiveCopies", spec := "liveCopies", unfollowed := true, recurses := true, plainKeys := false, apart := false, narrowed := true }
def LiveCopiesUptoSaid : Prop := liveCopiesUptoRow.holds Tryz.pinned (OpenSpec.upto liveCopiesSpec)

/-- 'rilllaw23.LiveSpoilt', WHERE WHAT IT READS IS OF BULK AT MOST 1048576: true; the input reads as it did. -/
def liveSpoiltUptoRow : OpenClaim := { program := "ytehnkcnjmfbjpaagreat", sum := "720ba59c25cc3191604c8599c9c26737148f7191264098556da8748b40af2a42", func := "rill/rilllaw23.LiveSpoilt", spec := "liveSpoilt", unfollowed := true, recurses := true, plainKeys := false, apart := false, narrowed := true }
def LiveSpoiltUptoSaid : Prop := liveSpoiltUptoRow.holds Tryz.pinned (OpenSpec.upto liveSpoiltSpec)

/-- 'rilllaw23.LiveKnown', WHERE WHAT IT READS IS OF BULK AT MOST 1048576: true; the input reads as it did. -/
def liveKnownUptoRow : OpenClaim := { program := "ytehnkcnjmfbjpaagreat", sum := "720ba59c25cc3191604c8599c9c26737148f7191264098556da8748b40af2a42", func := "rill/rilllaw23.LiveKnown", spec := "liveKnown", unfollowed := true, recurses := true, plainKeys := false, apart := false, narrowed := true }
def LiveKnownUptoSaid : Prop := liveKnownUptoRow.holds Tryz.pinned (OpenSpec.upto liveKnownSpec)

/-- 'rilllaw23.LiveCounts', WHERE WHAT IT READS IS OF BULK AT MOST 1048576: true; the input reads as it did. -/
def liveCountsUptoRow : OpenClaim := { program := "ytehnkcnjmfbjpaagreat", sum := "720ba59c25cc3191604c8599c9c26737148f7191264098556da8748b40af2a42", func := "rill/rilllaw23.LiveCounts", spec := "liveCounts", unfollowed := true, recurses := true, plainKeys := false, apart := false, narrowed := true }
def LiveCountsUptoSaid : Prop := liveCountsUptoRow.holds Tryz.pinned (OpenSpec.upto liveCountsSpec)

end Rows
end Go.Proofs.YtehnkcnjmfbjpaaGreat
