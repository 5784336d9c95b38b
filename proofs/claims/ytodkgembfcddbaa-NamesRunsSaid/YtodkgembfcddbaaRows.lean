/-
  No cell of these rows narrows 'for every input' (looked for: loops, veiled, ifaces, maps, wideKeys, modest, calm, conditions, laid).
  DERIVED. THE GIVEN ROWS OF THIS SEAT. 6 by the template 'for every input the law returns true; each argument reads behind the call as it read before'; 0 by the template 'total and deterministic' (their statements: YtodkgembfcddbaaTotals.lean).
  GIVEN WITH THE SEED: the statements are not yours to turn. If you find one false, say at which input.
  Laid BY PROGRAM, IN A SANDBOX (cutbox-rows.mjs): the forced cells as the released guide's own fill.sh prints them over the translation a46c607859b16b26… (all of the seat's roots in one cut). By AI agents, Wed Nov 11 2026. No macro, syntax, notation, axiom, sorry.
-/
import Derived.Test.YtodkgembfcddbaaChecked
import GoSem.Claim
import GoSem.ClaimJoined
import GoSem.ClaimMapViews
import Derived.JoinedTies
import Derived.KernelRfl
namespace Go.Proofs.Ytodkgembfcddbaa
/- THE CELL 'sum', in the pinned program and in every row, IS THE sha256 OF THE DUMP (.gsa) THAT YtodkgembfcddbaaProg.lean LOADS. Nothing in Lean hashes anything: it is a label: what it is worth is what the hold of that sum in a sandbox is worth. -/
noncomputable def Try.pinned : Pinned := { name := "ytodkgembfcddbaa", sum := "a46c607859b16b26bb0f333a612e488e5c90556c5d1cb60b140b61ef07c1ca7a", checked := Try.checked }
namespace Rows
def none {H : Type} : Left H := { results := [], args := [] }

/-- 'rilllaw06.NamesRuns': WHATEVER THE INPUT: true; the input reads as it did. -/
def namesRunsSpec : ChangeSpec := { name := "namesRuns", fn := fun _ => fun
  | [d] => { results := [.lit (.bool true)], args := [d] }
  | _ => none }
def namesRunsRow : OpenClaim := { program := "ytodkgembfcddbaa", sum := "a46c607859b16b26bb0f333a612e488e5c90556c5d1cb60b140b61ef07c1ca7a", func := "rill/rilllaw06.NamesRuns", spec := "namesRuns", unfollowed := true, recurses := true, plainKeys := false, apart := false }
def NamesRunsSaid : Prop := namesRunsRow.holds Try.pinned (OpenSpec.ofChange namesRunsSpec)

/-- ITS FALSE NEIGHBOUR: 'it returns false'. Refute it at one input. -/
def namesRunsWrong : ChangeSpec := { name := "namesRuns", fn := fun _ => fun
  | [d] => { results := [.lit (.bool false)], args := [d] }
  | _ => none }
def NamesRunsWrongFalsely : Prop := namesRunsRow.holds Try.pinned (OpenSpec.ofChange namesRunsWrong)

/-- 'rilllaw06.NamesBack': WHATEVER THE INPUT: true; the input reads as it did. -/
def namesBackSpec : ChangeSpec := { name := "namesBack", fn := fun _ => fun
  | [d] => { results := [.lit (.bool true)], args := [d] }
  | _ => none }
def namesBackRow : OpenClaim := { program := "ytodkgembfcddbaa", sum := "a46c607859b16b26bb0f333a612e488e5c90556c5d1cb60b140b61ef07c1ca7a", func := "rill/rilllaw06.NamesBack", spec := "namesBack", unfollowed := true, recurses := true, plainKeys := false, apart := false }
def NamesBackSaid : Prop := namesBackRow.holds Try.pinned (OpenSpec.ofChange namesBackSpec)

/-- ITS FALSE NEIGHBOUR: 'it returns false'. Refute it at one input. -/
def namesBackWrong : ChangeSpec := { name := "namesBack", fn := fun _ => fun
  | [d] => { results := [.lit (.bool false)], args := [d] }
  | _ => none }
def NamesBackWrongFalsely : Prop := namesBackRow.holds Try.pinned (OpenSpec.ofChange namesBackWrong)

/-- 'rilllaw06.NamesForged': WHATEVER THE INPUT: true; the input reads as it did. -/
def namesForgedSpec : ChangeSpec := { name := "namesForged", fn := fun _ => fun
  | [d1, d2, d3, d4, d5] => { results := [.lit (.bool true)], args := [d1, d2, d3, d4, d5] }
  | _ => none }
def namesForgedRow : OpenClaim := { program := "ytodkgembfcddbaa", sum := "a46c607859b16b26bb0f333a612e488e5c90556c5d1cb60b140b61ef07c1ca7a", func := "rill/rilllaw06.NamesForged", spec := "namesForged", unfollowed := true, recurses := true, plainKeys := false, apart := false }
def NamesForgedSaid : Prop := namesForgedRow.holds Try.pinned (OpenSpec.ofChange namesForgedSpec)

/-- ITS FALSE NEIGHBOUR: 'it returns false'. Refute it at one input. -/
def namesForgedWrong : ChangeSpec := { name := "namesForged", fn := fun _ => fun
  | [d1, d2, d3, d4, d5] => { results := [.lit (.bool false)], args := [d1, d2, d3, d4, d5] }
  | _ => none }
def NamesForgedWrongFalsely : Prop := namesForgedRow.holds Try.pinned (OpenSpec.ofChange namesForgedWrong)

/-- 'rilllaw06.NamesApart': WHATEVER THE INPUT: true; the input reads as it did. -/
def namesApartSpec : ChangeSpec := { name := "namesApart", fn := fun _ => fun
  | [d] => { results := [.lit (.bool true)], args := [d] }
  | _ => none }
def namesApartRow : OpenClaim := { program := "ytodkgembfcddbaa", sum := "a46c607859b16b26bb0f333a612e488e5c90556c5d1cb60b140b61ef07c1ca7a", func := "rill/rilllaw06.NamesApart", spec := "namesApart", unfollowed := true, recurses := true, plainKeys := false, apart := false }
def NamesApartSaid : Prop := namesApartRow.holds Try.pinned (OpenSpec.ofChange namesApartSpec)

/-- ITS FALSE NEIGHBOUR: 'it returns false'. Refute it at one input. -/
def namesApartWrong : ChangeSpec := { name := "namesApart", fn := fun _ => fun
  | [d] => { results := [.lit (.bool false)], args := [d] }
  | _ => none }
def NamesApartWrongFalsely : Prop := namesApartRow.holds Try.pinned (OpenSpec.ofChange namesApartWrong)

/-- 'rilllaw06.NamesKnown': WHATEVER THE INPUT: true; the input reads as it did. -/
def namesKnownSpec : ChangeSpec := { name := "namesKnown", fn := fun _ => fun
  | [] => { results := [.lit (.bool true)], args := [] }
  | _ => none }
def namesKnownRow : OpenClaim := { program := "ytodkgembfcddbaa", sum := "a46c607859b16b26bb0f333a612e488e5c90556c5d1cb60b140b61ef07c1ca7a", func := "rill/rilllaw06.NamesKnown", spec := "namesKnown", unfollowed := true, recurses := true, plainKeys := false, apart := false }
def NamesKnownSaid : Prop := namesKnownRow.holds Try.pinned (OpenSpec.ofChange namesKnownSpec)

/-- ITS FALSE NEIGHBOUR: 'it returns false'. Refute it at one input. -/
def namesKnownWrong : ChangeSpec := { name := "namesKnown", fn := fun _ => fun
  | [] => { results := [.lit (.bool false)], args := [] }
  | _ => none }
def NamesKnownWrongFalsely : Prop := namesKnownRow.holds Try.pinned (OpenSpec.ofChange namesKnownWrong)

/-- 'rilllaw06.NamesStays': WHATEVER THE INPUT: true; the input reads as it did. -/
def namesStaysSpec : ChangeSpec := { name := "namesStays", fn := fun _ => fun
  | [d1, d2] => { results := [.lit (.bool true)], args := [d1, d2] }
  | _ => none }
def namesStaysRow : OpenClaim := { program := "ytodkgembfcddbaa", sum := "a46c607859b16b26bb0f333a612e488e5c90556c5d1cb60b140b61ef07c1ca7a", func := "rill/rilllaw06.NamesStays", spec := "namesStays", unfollowed := true, recurses := true, plainKeys := false, apart := false }
def NamesStaysSaid : Prop := namesStaysRow.holds Try.pinned (OpenSpec.ofChange namesStaysSpec)

/-- ITS FALSE NEIGHBOUR: 'it returns false'. Refute it at one input. -/
def namesStaysWrong : ChangeSpec := { name := "namesStays", fn := fun _ => fun
  | [d1, d2] => { results := [.lit (.bool false)], args := [d1, d2] }
  | _ => none }
def NamesStaysWrongFalsely : Prop := namesStaysRow.holds Try.pinned (OpenSpec.ofChange namesStaysWrong)

/- THE SECOND FORM. 'bulk': how many values and letters a reading holds, each counted each time it is reached (what is shared counts as often as it is met; a slice's spare places count too). A statement '..UptoSaid' is the law's where the arguments, and the package variables that the reading takes, are together of bulk at most 1048576: NARROWER than '..Said'. Prove '..Said' where nothing that the law and all that it calls make is longer than what came in: it says more and counts as full. Else prove '..UptoSaid'. A law counts once. -/
mutual
def uptoBulk {H : Type} : DataW H → Nat
  | .lit (.string bytes) => bytes.length + 1
  | .lit _ => 1
  | .nil => 1
  | .ptr d => uptoBulk d + 1
  | .slice elems spare => uptoBulkAll elems + uptoBulkAll spare + 1
  | .agg parts => uptoBulkAll parts + 1
  | .iface _ d => uptoBulk d + 1
  | .map entries => uptoBulkEntries entries + 1
  | .held _ => 1
def uptoBulkAll {H : Type} : List (DataW H) → Nat
  | [] => 0
  | d :: r => uptoBulk d + uptoBulkAll r
def uptoBulkEntries {H : Type} : List (Lit × DataW H) → Nat
  | [] => 0
  | x :: r => uptoBulkEntry x + uptoBulkEntries r
def uptoBulkEntry {H : Type} : Lit × DataW H → Nat
  | (.string bytes, d) => bytes.length + uptoBulk d + 1
  | (_, d) => uptoBulk d + 1
 end
def uptoSmall : (H : Type) → List (DataW H) → Bool := fun _ ds => decide (uptoBulkAll ds ≤ 1048576)
def OpenSpec.upto (s : _root_.Go.ChangeSpec) : _root_.Go.OpenSpec := { _root_.Go.OpenSpec.ofChange s with cond := some uptoSmall }

/-- 'rilllaw06.NamesRuns', WHERE WHAT IT READS IS OF BULK AT MOST 1048576: true; the input reads as it did. -/
def namesRunsUptoRow : OpenClaim := { program := "ytodkgembfcddbaa", sum := "a46c607859b16b26bb0f333a612e488e5c90556c5d1cb60b140b61ef07c1ca7a", func := "rill/rilllaw06.NamesRuns", spec := "namesRuns", unfollowed := true, recurses := true, plainKeys := false, apart := false, narrowed := true }
def NamesRunsUptoSaid : Prop := namesRunsUptoRow.holds Try.pinned (OpenSpec.upto namesRunsSpec)

/-- 'rilllaw06.NamesBack', WHERE WHAT IT READS IS OF BULK AT MOST 1048576: true; the input reads as it did. -/
def namesBackUptoRow : OpenClaim := { program := "ytodkgembfcddbaa", sum := "a46c607859b16b26bb0f333a612e488e5c90556c5d1cb60b140b61ef07c1ca7a", func := "rill/rilllaw06.NamesBack", spec := "namesBack", unfollowed := true, recurses := true, plainKeys := false, apart := false, narrowed := true }
def NamesBackUptoSaid : Prop := namesBackUptoRow.holds Try.pinned (OpenSpec.upto namesBackSpec)

/-- 'rilllaw06.NamesForged', WHERE WHAT IT READS IS OF BULK AT MOST 1048576: true; the input reads as it did. -/
def namesForgedUptoRow : OpenClaim := { program := "ytodkgembfcddbaa", sum := "a46c607859b16b26bb0f333a612e488e5c90556c5d1cb60b140b61ef07c1ca7a", func := "rill/rilllaw06.NamesForged", spec := "namesForged", unfollowed := true, recurses := true, plainKeys := false, apart := false, narrowed := true }
def NamesForgedUptoSaid : Prop := namesForgedUptoRow.holds Try.pinned (OpenSpec.upto namesForgedSpec)

/-- 'rilllaw06.NamesApart', WHERE WHAT IT READS IS OF BULK AT MOST 1048576: true; the input reads as it did. -/
def namesApartUptoRow : OpenClaim := { program := "ytodkgembfcddbaa", sum := "a46c607859b16b26bb0f333a612e488e5c90556c5d1cb60b140b61ef07c1ca7a", func := "rill/rilllaw06.NamesApart", spec := "namesApart", unfollowed := true, recurses := true, plainKeys := false, apart := false, narrowed := true }
def NamesApartUptoSaid : Prop := namesApartUptoRow.holds Try.pinned (OpenSpec.upto namesApartSpec)

/-- 'rilllaw06.NamesKnown', WHERE WHAT IT READS IS OF BULK AT MOST 1048576: true; the input reads as it did. -/
def namesKnownUptoRow : OpenClaim := { program := "ytodkgembfcddbaa", sum := "a46c607859b16b26bb0f333a612e488e5c90556c5d1cb60b140b61ef07c1ca7a", func := "rill/rilllaw06.NamesKnown", spec := "namesKnown", unfollowed := true, recurses := true, plainKeys := false, apart := false, narrowed := true }
def NamesKnownUptoSaid : Prop := namesKnownUptoRow.holds Try.pinned (OpenSpec.upto namesKnownSpec)

/-- 'rilllaw06.NamesStays', WHERE WHAT IT READS IS OF BULK AT MOST 1048576: true; the input reads as it did. -/
def namesStaysUptoRow : OpenClaim := { program := "ytodkgembfcddbaa", sum := "a46c607859b16b26bb0f333a612e488e5c90556c5d1cb60b140b61ef07c1ca7a", func := "rill/rilllaw06.NamesStays", spec := "namesStays", unfollowed := true, recurses := true, plainKeys := false, apart := false, narrowed := true }
def NamesStaysUptoSaid : Prop := namesStaysUptoRow.holds Try.pinned (OpenSpec.upto namesStaysSpec)

end Rows
end Go.Proofs.Ytodkgembfcddbaa
