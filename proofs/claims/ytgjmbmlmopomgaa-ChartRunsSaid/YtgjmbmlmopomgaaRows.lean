/-
  No cell of these rows narrows 'for every input' (looked for: loops, veiled, ifaces, maps, wideKeys, modest, calm, conditions, laid).
  DERIVED. THE GIVEN ROWS OF THIS SEAT. 4 by the template 'for every input the law returns true; each argument reads behind the call as it read before'; 0 by the template 'total and deterministic' (their statements: YtgjmbmlmopomgaaTotals.lean).
  GIVEN WITH THE SEED: the statements are not yours to turn. If you find one false, say at which input.
  Laid BY PROGRAM, IN A SANDBOX (cutbox-rows.mjs): the forced cells as the released guide's own fill.sh prints them over the translation 7b01b9ef9d168679… (all of the seat's roots in one cut). By AI agents, Wed Nov 11 2026. No macro, syntax, notation, axiom, sorry.
-/
import Derived.Test.YtgjmbmlmopomgaaChecked
import GoSem.Claim
import GoSem.ClaimJoined
import GoSem.ClaimMapViews
import Derived.JoinedTies
import Derived.KernelRfl
namespace Go.Proofs.Ytgjmbmlmopomgaa
/- THE CELL 'sum', in the pinned program and in every row, IS THE sha256 OF THE DUMP (.gsa) THAT YtgjmbmlmopomgaaProg.lean LOADS. Nothing in Lean hashes anything: it is a label: what it is worth is what the hold of that sum in a sandbox is worth. -/
noncomputable def Try.pinned : Pinned := { name := "ytgjmbmlmopomgaa", sum := "7b01b9ef9d168679d1cf8382726e6e8edcba4b5d2fc7887954061113ec3df75a", checked := Try.checked }
namespace Rows
def none {H : Type} : Left H := { results := [], args := [] }

/-- 'isoclinelaw23.ChartReacts': WHATEVER THE INPUT: true; the input reads as it did. -/
def chartReactsSpec : ChangeSpec := { name := "chartReacts", fn := fun _ => fun
  | [d1, d2, d3] => { results := [.lit (.bool true)], args := [d1, d2, d3] }
  | _ => none }
def chartReactsRow : OpenClaim := { program := "ytgjmbmlmopomgaa", sum := "7b01b9ef9d168679d1cf8382726e6e8edcba4b5d2fc7887954061113ec3df75a", func := "isocline/isoclinelaw23.ChartReacts", spec := "chartReacts", unfollowed := true, recurses := true, apart := false }
def ChartReactsSaid : Prop := chartReactsRow.holds Try.pinned (OpenSpec.ofChange chartReactsSpec)

/-- ITS FALSE NEIGHBOUR: 'it returns false'. Refute it at one input. -/
def chartReactsWrong : ChangeSpec := { name := "chartReacts", fn := fun _ => fun
  | [d1, d2, d3] => { results := [.lit (.bool false)], args := [d1, d2, d3] }
  | _ => none }
def ChartReactsWrongFalsely : Prop := chartReactsRow.holds Try.pinned (OpenSpec.ofChange chartReactsWrong)

/-- 'isoclinelaw23.ChartActs': WHATEVER THE INPUT: true; the input reads as it did. -/
def chartActsSpec : ChangeSpec := { name := "chartActs", fn := fun _ => fun
  | [d1, d2, d3] => { results := [.lit (.bool true)], args := [d1, d2, d3] }
  | _ => none }
def chartActsRow : OpenClaim := { program := "ytgjmbmlmopomgaa", sum := "7b01b9ef9d168679d1cf8382726e6e8edcba4b5d2fc7887954061113ec3df75a", func := "isocline/isoclinelaw23.ChartActs", spec := "chartActs", unfollowed := true, recurses := true, apart := false }
def ChartActsSaid : Prop := chartActsRow.holds Try.pinned (OpenSpec.ofChange chartActsSpec)

/-- ITS FALSE NEIGHBOUR: 'it returns false'. Refute it at one input. -/
def chartActsWrong : ChangeSpec := { name := "chartActs", fn := fun _ => fun
  | [d1, d2, d3] => { results := [.lit (.bool false)], args := [d1, d2, d3] }
  | _ => none }
def ChartActsWrongFalsely : Prop := chartActsRow.holds Try.pinned (OpenSpec.ofChange chartActsWrong)

/-- 'isoclinelaw23.ChartRuns': WHATEVER THE INPUT: true; the input reads as it did. -/
def chartRunsSpec : ChangeSpec := { name := "chartRuns", fn := fun _ => fun
  | [d1, d2, d3] => { results := [.lit (.bool true)], args := [d1, d2, d3] }
  | _ => none }
def chartRunsRow : OpenClaim := { program := "ytgjmbmlmopomgaa", sum := "7b01b9ef9d168679d1cf8382726e6e8edcba4b5d2fc7887954061113ec3df75a", func := "isocline/isoclinelaw23.ChartRuns", spec := "chartRuns", unfollowed := true, recurses := true, apart := false }
def ChartRunsSaid : Prop := chartRunsRow.holds Try.pinned (OpenSpec.ofChange chartRunsSpec)

/-- ITS FALSE NEIGHBOUR: 'it returns false'. Refute it at one input. -/
def chartRunsWrong : ChangeSpec := { name := "chartRuns", fn := fun _ => fun
  | [d1, d2, d3] => { results := [.lit (.bool false)], args := [d1, d2, d3] }
  | _ => none }
def ChartRunsWrongFalsely : Prop := chartRunsRow.holds Try.pinned (OpenSpec.ofChange chartRunsWrong)

/-- 'isoclinelaw23.ChartCuts': WHATEVER THE INPUT: true; the input reads as it did. -/
def chartCutsSpec : ChangeSpec := { name := "chartCuts", fn := fun _ => fun
  | [d1, d2, d3, d4] => { results := [.lit (.bool true)], args := [d1, d2, d3, d4] }
  | _ => none }
def chartCutsRow : OpenClaim := { program := "ytgjmbmlmopomgaa", sum := "7b01b9ef9d168679d1cf8382726e6e8edcba4b5d2fc7887954061113ec3df75a", func := "isocline/isoclinelaw23.ChartCuts", spec := "chartCuts", unfollowed := true, recurses := true, apart := false }
def ChartCutsSaid : Prop := chartCutsRow.holds Try.pinned (OpenSpec.ofChange chartCutsSpec)

/-- ITS FALSE NEIGHBOUR: 'it returns false'. Refute it at one input. -/
def chartCutsWrong : ChangeSpec := { name := "chartCuts", fn := fun _ => fun
  | [d1, d2, d3, d4] => { results := [.lit (.bool false)], args := [d1, d2, d3, d4] }
  | _ => none }
def ChartCutsWrongFalsely : Prop := chartCutsRow.holds Try.pinned (OpenSpec.ofChange chartCutsWrong)

/- THE SECOND FORM. 'bulk': how many values and letters a reading holds, each counted each time it is reached (what is shared counts as often as it is met; a slice's spare places count too). A statement '..UptoSaid' is the law's where the arguments, and the package variables that the reading takes, are together of bulk at most 1048576: NARROWER than '..Said'. Prove '..Said' where nothing that the law and all that it calls make is longer than what came in: it says more and counts as full. Else prove '..UptoSaid'. A law counts once. -/
mutual
def uptoBulk {H : Type} : DataW H → Nat
  | .lit (.string bytes) => bytes.length + 1
  | .lit _ => 1
  | .nil => 1
  | .ptr d => uptoBulk d + 1
  | .slice elems spare => uptoBulkAll elems + uptoBulkAll spare + 1
  | .agg parts => uptoBulkAll parts + 1
  | .iface _ d => uptoBulk d + 1
  | .map entries => uptoBulkEntries entries + 1
  | .held _ => 1
def uptoBulkAll {H : Type} : List (DataW H) → Nat
  | [] => 0
  | d :: r => uptoBulk d + uptoBulkAll r
def uptoBulkEntries {H : Type} : List (Lit × DataW H) → Nat
  | [] => 0
  | x :: r => uptoBulkEntry x + uptoBulkEntries r
def uptoBulkEntry {H : Type} : Lit × DataW H → Nat
  | (.string bytes, d) => bytes.length + uptoBulk d + 1
  | (_, d) => uptoBulk d + 1
 end
def uptoSmall : (H : Type) → List (DataW H) → Bool := fun _ ds => decide (uptoBulkAll ds ≤ 1048576)
def OpenSpec.upto (s : _root_.Go.ChangeSpec) : _root_.Go.OpenSpec := { _root_.Go.OpenSpec.ofChange s with cond := some uptoSmall }

/-- 'isoclinelaw23.ChartReacts', WHERE WHAT IT READS IS OF BULK AT MOST 1048576: true; the input reads as it did. -/
def chartReactsUptoRow : OpenClaim := { program := "ytgjmbmlmopomgaa", sum := "7b01b9ef9d168679d1cf8382726e6e8edcba4b5d2fc7887954061113ec3df75a", func := "isocline/isoclinelaw23.ChartReacts", spec := "chartReacts", unfollowed := true, recurses := true, apart := false, narrowed := true }
def ChartReactsUptoSaid : Prop := chartReactsUptoRow.holds Try.pinned (OpenSpec.upto chartReactsSpec)

/-- 'isoclinelaw23.ChartActs', WHERE WHAT IT READS IS OF BULK AT MOST 1048576: true; the input reads as it did. -/
def chartActsUptoRow : OpenClaim := { program := "ytgjmbmlmopomgaa", sum := "7b01b9ef9d168679d1cf8382726e6e8edcba4b5d2fc7887954061113ec3df75a", func := "isocline/isoclinelaw23.ChartActs", spec := "chartActs", unfollowed := true, recurses := true, apart := false, narrowed := true }
def ChartActsUptoSaid : Prop := chartActsUptoRow.holds Try.pinned (OpenSpec.upto chartActsSpec)

/-- 'isoclinelaw23.ChartRuns', WHERE WHAT IT READS IS OF BULK AT MOST 1048576: true; the input reads as it did. -/
def chartRunsUptoRow : OpenClaim := { program := "ytgjmbmlmopomgaa", sum := "7b01b9ef9d168679d1cf8382726e6e8edcba4b5d2fc7887954061113ec3df75a", func := "isocline/isoclinelaw23.ChartRuns", spec := "chartRuns", unfollowed := true, recurses := true, apart := false, narrowed := true }
def ChartRunsUptoSaid : Prop := chartRunsUptoRow.holds Try.pinned (OpenSpec.upto chartRunsSpec)

/-- 'isoclinelaw23.ChartCuts', WHERE WHAT IT READS IS OF BULK AT MOST 1048576: true; the input reads as it did. -/
def chartCutsUptoRow : OpenClaim := { program := "ytgjmbmlmopomgaa", sum := "7b01b9ef9d168679d1cf8382726e6e8edcba4b5d2fc7887954061113ec3df75a", func := "isocline/isoclinelaw23.ChartCuts", spec := "chartCuts", unfollowed := true, recurses := true, apart := false, narrowed := true }
def ChartCutsUptoSaid : Prop := chartCutsUptoRow.holds Try.pinned (OpenSpec.upto chartCutsSpec)

end Rows
end Go.Proofs.Ytgjmbmlmopomgaa
