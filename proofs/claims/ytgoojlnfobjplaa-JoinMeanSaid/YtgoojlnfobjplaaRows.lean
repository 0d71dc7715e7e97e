/-
  No cell of these rows narrows 'for every input' (looked for: loops, veiled, ifaces, maps, wideKeys, modest, calm, conditions, laid).
  DERIVED. THE GIVEN ROWS OF THIS SEAT. 4 by the template 'for every input the law returns true; each argument reads behind the call as it read before'; 0 by the template 'total and deterministic' (their statements: YtgoojlnfobjplaaTotals.lean).
  GIVEN WITH THE SEED: the statements are not yours to turn. If you find one false, say at which input.
  Laid BY PROGRAM, IN A SANDBOX (cutbox-rows.mjs): the forced cells as the released guide's own fill.sh prints them over the translation 4ee0d4dbb6a946c3… (all of the seat's roots in one cut). By AI agents, Wed Nov 11 2026. No macro, syntax, notation, axiom, sorry.
-/
import Derived.Test.YtgoojlnfobjplaaChecked
import GoSem.Claim
import GoSem.ClaimJoined
import GoSem.ClaimMapViews
import Derived.JoinedTies
import Derived.KernelRfl
namespace Go.Proofs.Ytgoojlnfobjplaa
/- THE CELL 'sum', in the pinned program and in every row, IS THE sha256 OF THE DUMP (.gsa) THAT YtgoojlnfobjplaaProg.lean LOADS. Nothing in Lean hashes anything: it is a label: what it is worth is what the hold of that sum in a sandbox is worth. -/
noncomputable def Try.pinned : Pinned := { name := "ytgoojlnfobjplaa", sum := "4ee0d4dbb6a946c31da58cd54be9e68e0d8ba531c8265e9572f9824cd99010b1", checked := Try.checked }
namespace Rows
def none {H : Type} : Left H := { results := [], args := [] }

/-- 'isoclinelaw11.JoinMixes': WHATEVER THE INPUT: true; the input reads as it did. -/
def joinMixesSpec : ChangeSpec := { name := "joinMixes", fn := fun _ => fun
  | [d1, d2] => { results := [.lit (.bool true)], args := [d1, d2] }
  | _ => none }
def joinMixesRow : OpenClaim := { program := "ytgoojlnfobjplaa", sum := "4ee0d4dbb6a946c31da58cd54be9e68e0d8ba531c8265e9572f9824cd99010b1", func := "isocline/isoclinelaw11.JoinMixes", spec := "joinMixes", apart := false }
def JoinMixesSaid : Prop := joinMixesRow.holds Try.pinned (OpenSpec.ofChange joinMixesSpec)

/-- ITS FALSE NEIGHBOUR: 'it returns false'. Refute it at one input. -/
def joinMixesWrong : ChangeSpec := { name := "joinMixes", fn := fun _ => fun
  | [d1, d2] => { results := [.lit (.bool false)], args := [d1, d2] }
  | _ => none }
def JoinMixesWrongFalsely : Prop := joinMixesRow.holds Try.pinned (OpenSpec.ofChange joinMixesWrong)

/-- 'isoclinelaw11.JoinMean': WHATEVER THE INPUT: true; the input reads as it did. -/
def joinMeanSpec : ChangeSpec := { name := "joinMean", fn := fun _ => fun
  | [d1, d2] => { results := [.lit (.bool true)], args := [d1, d2] }
  | _ => none }
def joinMeanRow : OpenClaim := { program := "ytgoojlnfobjplaa", sum := "4ee0d4dbb6a946c31da58cd54be9e68e0d8ba531c8265e9572f9824cd99010b1", func := "isocline/isoclinelaw11.JoinMean", spec := "joinMean", apart := false }
def JoinMeanSaid : Prop := joinMeanRow.holds Try.pinned (OpenSpec.ofChange joinMeanSpec)

/-- ITS FALSE NEIGHBOUR: 'it returns false'. Refute it at one input. -/
def joinMeanWrong : ChangeSpec := { name := "joinMean", fn := fun _ => fun
  | [d1, d2] => { results := [.lit (.bool false)], args := [d1, d2] }
  | _ => none }
def JoinMeanWrongFalsely : Prop := joinMeanRow.holds Try.pinned (OpenSpec.ofChange joinMeanWrong)

/-- 'isoclinelaw11.JoinForests': WHATEVER THE INPUT: true; the input reads as it did. -/
def joinForestsSpec : ChangeSpec := { name := "joinForests", fn := fun _ => fun
  | [d1, d2, d3, d4] => { results := [.lit (.bool true)], args := [d1, d2, d3, d4] }
  | _ => none }
def joinForestsRow : OpenClaim := { program := "ytgoojlnfobjplaa", sum := "4ee0d4dbb6a946c31da58cd54be9e68e0d8ba531c8265e9572f9824cd99010b1", func := "isocline/isoclinelaw11.JoinForests", spec := "joinForests", unfollowed := true, recurses := true, apart := false }
def JoinForestsSaid : Prop := joinForestsRow.holds Try.pinned (OpenSpec.ofChange joinForestsSpec)

/-- ITS FALSE NEIGHBOUR: 'it returns false'. Refute it at one input. -/
def joinForestsWrong : ChangeSpec := { name := "joinForests", fn := fun _ => fun
  | [d1, d2, d3, d4] => { results := [.lit (.bool false)], args := [d1, d2, d3, d4] }
  | _ => none }
def JoinForestsWrongFalsely : Prop := joinForestsRow.holds Try.pinned (OpenSpec.ofChange joinForestsWrong)

/-- 'isoclinelaw11.JoinTrees': WHATEVER THE INPUT: true; the input reads as it did. -/
def joinTreesSpec : ChangeSpec := { name := "joinTrees", fn := fun _ => fun
  | [d1, d2, d3, d4] => { results := [.lit (.bool true)], args := [d1, d2, d3, d4] }
  | _ => none }
def joinTreesRow : OpenClaim := { program := "ytgoojlnfobjplaa", sum := "4ee0d4dbb6a946c31da58cd54be9e68e0d8ba531c8265e9572f9824cd99010b1", func := "isocline/isoclinelaw11.JoinTrees", spec := "joinTrees", unfollowed := true, recurses := true, apart := false }
def JoinTreesSaid : Prop := joinTreesRow.holds Try.pinned (OpenSpec.ofChange joinTreesSpec)

/-- ITS FALSE NEIGHBOUR: 'it returns false'. Refute it at one input. -/
def joinTreesWrong : ChangeSpec := { name := "joinTrees", fn := fun _ => fun
  | [d1, d2, d3, d4] => { results := [.lit (.bool false)], args := [d1, d2, d3, d4] }
  | _ => none }
def JoinTreesWrongFalsely : Prop := joinTreesRow.holds Try.pinned (OpenSpec.ofChange joinTreesWrong)

/- THE SECOND FORM. 'bulk': how many values and letters a reading holds, each counted each time it is reached (what is shared counts as often as it is met; a slice's spare places count too). A statement '..UptoSaid' is the law's where the arguments, and the package variables that the reading takes, are together of bulk at most 1048576: NARROWER than '..Said'. Prove '..Said' where nothing that the law and all that it calls make is longer than what came in: it says more and counts as full. Else prove '..UptoSaid'. A law counts once. -/
mutual
def uptoBulk {H : Type} : DataW H → Nat
  | .lit (.string bytes) => bytes.length + 1
  | .lit _ => 1
  | .nil => 1
  | .ptr d => uptoBulk d + 1
  | .slice elems spare => uptoBulkAll elems + uptoBulkAll spare + 1
  | .agg parts => uptoBulkAll parts + 1
  | .iface _ d => uptoBulk d + 1
  | .map entries => uptoBulkEntries entries + 1
  | .held _ => 1
def uptoBulkAll {H : Type} : List (DataW H) → Nat
  | [] => 0
  | d :: r => uptoBulk d + uptoBulkAll r
def uptoBulkEntries {H : Type} : List (Lit × DataW H) → Nat
  | [] => 0
  | x :: r => uptoBulkEntry x + uptoBulkEntries r
def uptoBulkEntry {H : Type} : Lit × DataW H → Nat
  | (.string bytes, d) => bytes.length + uptoBulk d + 1
  | (_, d) => uptoBulk d + 1
 end
def uptoSmall : (H : Type) → List (DataW H) → Bool := fun _ ds => decide (uptoBulkAll ds ≤ 1048576)
def OpenSpec.upto (s : _root_.Go.ChangeSpec) : _root_.Go.OpenSpec := { _root_.Go.OpenSpec.ofChange s with cond := some uptoSmall }

/-- 'isoclinelaw11.JoinMixes', WHERE WHAT IT READS IS OF BULK AT MOST 1048576: true; the input reads as it did. -/
def joinMixesUptoRow : OpenClaim := { program := "ytgoojlnfobjplaa", sum := "4ee0d4dbb6a946c31da58cd54be9e68e0d8ba531c8265e9572f9824cd99010b1", func := "isocline/isoclinelaw11.JoinMixes", spec := "joinMixes", apart := false, narrowed := true }
def JoinMixesUptoSaid : Prop := joinMixesUptoRow.holds Try.pinned (OpenSpec.upto joinMixesSpec)

/-- 'isoclinelaw11.JoinMean', WHERE WHAT IT READS IS OF BULK AT MOST 1048576: true; the input reads as it did. -/
def joinMeanUptoRow : OpenClaim := { program := "ytgoojlnfobjplaa", sum := "4ee0d4dbb6a946c31da58cd54be9e68e0d8ba531c8265e9572f9824cd99010b1", func := "isocline/isoclinelaw11.JoinMean", spec := "joinMean", apart := false, narrowed := true }
def JoinMeanUptoSaid : Prop := joinMeanUptoRow.holds Try.pinned (OpenSpec.upto joinMeanSpec)

/-- 'isoclinelaw11.JoinForests', WHERE WHAT IT READS IS OF BULK AT MOST 1048576: true; the input reads as it did. -/
def joinForestsUptoRow : OpenClaim := { program := "ytgoojlnfobjplaa", sum := "4ee0d4dbb6a946c31da58cd54be9e68e0d8ba531c8265e9572f9824cd99010b1", func := "isocline/isoclinelaw11.JoinForests", spec := "joinForests", unfollowed := true, recurses := true, apart := false, narrowed := true }
def JoinForestsUptoSaid : Prop := joinForestsUptoRow.holds Try.pinned (OpenSpec.upto joinForestsSpec)

/-- 'isoclinelaw11.JoinTrees', WHERE WHAT IT READS IS OF BULK AT MOST 1048576: true; the input reads as it did. -/
def joinTreesUptoRow : OpenClaim := { program := "ytgoojlnfobjplaa", sum := "4ee0d4dbb6a946c31da58cd54be9e68e0d8ba531c8265e9572f9824cd99010b1", func := "isocline/isoclinelaw11.JoinTrees", spec := "joinTrees", unfollowed := true, recurses := true, apart := false, narrowed := true }
def JoinTreesUptoSaid : Prop := joinTreesUptoRow.holds Try.pinned (OpenSpec.upto joinTreesSpec)

end Rows
end Go.Proofs.Ytgoojlnfobjplaa
