/-
  No cell of these rows narrows 'for every input' (looked for: loops, veiled, ifaces, maps, wideKeys, modest, calm, conditions, laid).
  DERIVED. THE GIVEN ROWS OF THIS SEAT. 6 by the template 'for every input the law returns true; each argument reads behind the call as it read before'; 0 by the template 'total and deterministic' (their statements: YtjbhnfejpgjghaaTotals.lean).
  GIVEN WITH THE SEED: the statements are not yours to turn. If you find one false, say at which input.
  Laid BY PROGRAM, IN A SANDBOX (cutbox-rows.mjs): the forced cells as the released guide's own fill.sh prints them over the translation 66c4708603c6b2f7… (all of the seat's roots in one cut). By AI agents, Wed Nov 11 2026. No macro, syntax, notation, axiom, sorry.
-/
import Derived.Test.YtjbhnfejpgjghaaChecked
import GoSem.Claim
import GoSem.ClaimJoined
import GoSem.ClaimMapViews
import Derived.JoinedTies
import Derived.KernelRfl
namespace Go.Proofs.Ytjbhnfejpgjghaa
/- THE CELL 'sum', in the pinned program and in every row, IS THE sha256 OF THE DUMP (.gsa) THAT YtjbhnfejpgjghaaProg.lean LOADS. Nothing in Lean hashes anything: it is a label: what it is worth is what the hold of that sum in a sandbox is worth. -/
noncomputable def Try.pinned : Pinned := { name := "ytjbhnfejpgjghaa", sum := "66c4708603c6b2f7cd0f7da63e0ba3cfc7a9861bf91e6b0a88a4047f533942d1", checked := Try.checked }
namespace Rows
def none {H : Type} : Left H := { results := [], args := [] }

/-- 'isoclinelaw13.MatchOffsets': WHATEVER THE INPUT: true; the input reads as it did. -/
def matchOffsetsSpec : ChangeSpec := { name := "matchOffsets", fn := fun _ => fun
  | [d] => { results := [.lit (.bool true)], args := [d] }
  | _ => none }
def matchOffsetsRow : OpenClaim := { program := "ytjbhnfejpgjghaa", sum := "66c4708603c6b2f7cd0f7da63e0ba3cfc7a9861bf91e6b0a88a4047f533942d1", func := "isocline/isoclinelaw13.MatchOffsets", spec := "matchOffsets", unfollowed := true, recurses := true, plainKeys := false, apart := false }
def MatchOffsetsSaid : Prop := matchOffsetsRow.holds Try.pinned (OpenSpec.ofChange matchOffsetsSpec)

/-- ITS FALSE NEIGHBOUR: 'it returns false'. Refute it at one input. -/
def matchOffsetsWrong : ChangeSpec := { name := "matchOffsets", fn := fun _ => fun
  | [d] => { results := [.lit (.bool false)], args := [d] }
  | _ => none }
def MatchOffsetsWrongFalsely : Prop := matchOffsetsRow.holds Try.pinned (OpenSpec.ofChange matchOffsetsWrong)

/-- 'isoclinelaw13.MatchDuals': WHATEVER THE INPUT: true; the input reads as it did. -/
def matchDualsSpec : ChangeSpec := { name := "matchDuals", fn := fun _ => fun
  | [d] => { results := [.lit (.bool true)], args := [d] }
  | _ => none }
def matchDualsRow : OpenClaim := { program := "ytjbhnfejpgjghaa", sum := "66c4708603c6b2f7cd0f7da63e0ba3cfc7a9861bf91e6b0a88a4047f533942d1", func := "isocline/isoclinelaw13.MatchDuals", spec := "matchDuals", unfollowed := true, recurses := true, plainKeys := false, apart := false }
def MatchDualsSaid : Prop := matchDualsRow.holds Try.pinned (OpenSpec.ofChange matchDualsSpec)

/-- ITS FALSE NEIGHBOUR: 'it returns false'. Refute it at one input. -/
def matchDualsWrong : ChangeSpec := { name := "matchDuals", fn := fun _ => fun
  | [d] => { results := [.lit (.bool false)], args := [d] }
  | _ => none }
def MatchDualsWrongFalsely : Prop := matchDualsRow.holds Try.pinned (OpenSpec.ofChange matchDualsWrong)

/-- 'isoclinelaw13.MatchPerfect': WHATEVER THE INPUT: true; the input reads as it did. -/
def matchPerfectSpec : ChangeSpec := { name := "matchPerfect", fn := fun _ => fun
  | [d1, d2] => { results := [.lit (.bool true)], args := [d1, d2] }
  | _ => none }
def matchPerfectRow : OpenClaim := { program := "ytjbhnfejpgjghaa", sum := "66c4708603c6b2f7cd0f7da63e0ba3cfc7a9861bf91e6b0a88a4047f533942d1", func := "isocline/isoclinelaw13.MatchPerfect", spec := "matchPerfect", unfollowed := true, recurses := true, plainKeys := false, apart := false }
def MatchPerfectSaid : Prop := matchPerfectRow.holds Try.pinned (OpenSpec.ofChange matchPerfectSpec)

/-- ITS FALSE NEIGHBOUR: 'it returns false'. Refute it at one input. -/
def matchPerfectWrong : ChangeSpec := { name := "matchPerfect", fn := fun _ => fun
  | [d1, d2] => { results := [.lit (.bool false)], args := [d1, d2] }
  | _ => none }
def MatchPerfectWrongFalsely : Prop := matchPerfectRow.holds Try.pinned (OpenSpec.ofChange matchPerfectWrong)

/-- 'isoclinelaw13.MatchParts': WHATEVER THE INPUT: true; the input reads as it did. -/
def matchPartsSpec : ChangeSpec := { name := "matchParts", fn := fun _ => fun
  | [d1, d2] => { results := [.lit (.bool true)], args := [d1, d2] }
  | _ => none }
def matchPartsRow : OpenClaim := { program := "ytjbhnfejpgjghaa", sum := "66c4708603c6b2f7cd0f7da63e0ba3cfc7a9861bf91e6b0a88a4047f533942d1", func := "isocline/isoclinelaw13.MatchParts", spec := "matchParts", unfollowed := true, recurses := true, plainKeys := false, apart := false }
def MatchPartsSaid : Prop := matchPartsRow.holds Try.pinned (OpenSpec.ofChange matchPartsSpec)

/-- ITS FALSE NEIGHBOUR: 'it returns false'. Refute it at one input. -/
def matchPartsWrong : ChangeSpec := { name := "matchParts", fn := fun _ => fun
  | [d1, d2] => { results := [.lit (.bool false)], args := [d1, d2] }
  | _ => none }
def MatchPartsWrongFalsely : Prop := matchPartsRow.holds Try.pinned (OpenSpec.ofChange matchPartsWrong)

/-- 'isoclinelaw13.MatchCovers': WHATEVER THE INPUT: true; the input reads as it did. -/
def matchCoversSpec : ChangeSpec := { name := "matchCovers", fn := fun _ => fun
  | [d] => { results := [.lit (.bool true)], args := [d] }
  | _ => none }
def matchCoversRow : OpenClaim := { program := "ytjbhnfejpgjghaa", sum := "66c4708603c6b2f7cd0f7da63e0ba3cfc7a9861bf91e6b0a88a4047f533942d1", func := "isocline/isoclinelaw13.MatchCovers", spec := "matchCovers", unfollowed := true, recurses := true, plainKeys := false, apart := false }
def MatchCoversSaid : Prop := matchCoversRow.holds Try.pinned (OpenSpec.ofChange matchCoversSpec)

/-- ITS FALSE NEIGHBOUR: 'it returns false'. Refute it at one input. -/
def matchCoversWrong : ChangeSpec := { name := "matchCovers", fn := fun _ => fun
  | [d] => { results := [.lit (.bool false)], args := [d] }
  | _ => none }
def MatchCoversWrongFalsely : Prop := matchCoversRow.holds Try.pinned (OpenSpec.ofChange matchCoversWrong)

/-- 'isoclinelaw13.MatchMaximum': WHATEVER THE INPUT: true; the input reads as it did. -/
def matchMaximumSpec : ChangeSpec := { name := "matchMaximum", fn := fun _ => fun
  | [d] => { results := [.lit (.bool true)], args := [d] }
  | _ => none }
def matchMaximumRow : OpenClaim := { program := "ytjbhnfejpgjghaa", sum := "66c4708603c6b2f7cd0f7da63e0ba3cfc7a9861bf91e6b0a88a4047f533942d1", func := "isocline/isoclinelaw13.MatchMaximum", spec := "matchMaximum", unfollowed := true, recurses := true, plainKeys := false, apart := false }
def MatchMaximumSaid : Prop := matchMaximumRow.holds Try.pinned (OpenSpec.ofChange matchMaximumSpec)

/-- ITS FALSE NEIGHBOUR: 'it returns false'. Refute it at one input. -/
def matchMaximumWrong : ChangeSpec := { name := "matchMaximum", fn := fun _ => fun
  | [d] => { results := [.lit (.bool false)], args := [d] }
  | _ => none }
def MatchMaximumWrongFalsely : Prop := matchMaximumRow.holds Try.pinned (OpenSpec.ofChange matchMaximumWrong)

/- THE SECOND FORM. 'bulk': how many values and letters a reading holds, each counted each time it is reached (what is shared counts as often as it is met; a slice's spare places count too). A statement '..UptoSaid' is the law's where the arguments, and the package variables that the reading takes, are together of bulk at most 1048576: NARROWER than '..Said'. Prove '..Said' where nothing that the law and all that it calls make is longer than what came in: it says more and counts as full. Else prove '..UptoSaid'. A law counts once. -/
mutual
def uptoBulk {H : Type} : DataW H → Nat
  | .lit (.string bytes) => bytes.length + 1
  | .lit _ => 1
  | .nil => 1
  | .ptr d => uptoBulk d + 1
  | .slice elems spare => uptoBulkAll elems + uptoBulkAll spare + 1
  | .agg parts => uptoBulkAll parts + 1
  | .iface _ d => uptoBulk d + 1
  | .map entries => uptoBulkEntries entries + 1
  | .held _ => 1
def uptoBulkAll {H : Type} : List (DataW H) → Nat
  | [] => 0
  | d :: r => uptoBulk d + uptoBulkAll r
def uptoBulkEntries {H : Type} : List (Lit × DataW H) → Nat
  | [] => 0
  | x :: r => uptoBulkEntry x + uptoBulkEntries r
def uptoBulkEntry {H : Type} : Lit × DataW H → Nat
  | (.string bytes, d) => bytes.length + uptoBulk d + 1
  | (_, d) => uptoBulk d + 1
 end
def uptoSmall : (H : Type) → List (DataW H) → Bool := fun _ ds => decide (uptoBulkAll ds ≤ 1048576)
def OpenSpec.upto (s : _root_.Go.ChangeSpec) : _root_.Go.OpenSpec := { _root_.Go.OpenSpec.ofChange s with cond := some uptoSmall }

/-- 'isoclinelaw13.MatchOffsets', WHERE WHAT IT READS IS OF BULK AT MOST 1048576: true; the input reads as it did. -/
def matchOffsetsUptoRow : OpenClaim := { program := "ytjbhnfejpgjghaa", sum := "66c4708603c6b2f7cd0f7da63e0ba3cfc7a9861bf91e6b0a88a4047f533942d1", func := "isocline/isoclinelaw13.MatchOffsets", spec := "matchOffsets", unfollowed := true, recurses := true, plainKeys := false, apart := false, narrowed := true }
def MatchOffsetsUptoSaid : Prop := matchOffsetsUptoRow.holds Try.pinned (OpenSpec.upto matchOffsetsSpec)

/-- 'isoclinelaw13.MatchDuals', WHERE WHAT IT READS IS OF BULK AT MOST 1048576: true; the input reads as it did. -/
def matchDualsUptoRow : OpenClaim := { program := "ytjbhnfejpgjghaa", sum := "66c4708603c6b2f7cd0f7da63e0ba3cfc7a9861bf91e6b0a88a4047f533942d1", func := "isocline/isoclinelaw13.MatchDuals", spec := "matchDuals", unfollowed := true, recurses := true, plainKeys := false, apart := false, narrowed := true }
def MatchDualsUptoSaid : Prop := matchDualsUptoRow.holds Try.pinned (OpenSpec.upto matchDualsSpec)

/-- 'isoclinelaw13.MatchPerfect', WHERE WHAT IT READS IS OF BULK AT MOST 1048576: true; the input reads as it did. -/
def matchPerfectUptoRow : OpenClaim := { program := "ytjbhnfejpgjghaa", sum := "66c4708603c6b2f7cd0f7da63e0ba3cfc7a9861bf91e6b0a88a4047f533942d1", func := "isocline/isoclinelaw13.MatchPerfect", spec := "matchPerfect", unfollowed := true, recurses := true, plainKeys := false, apart := false, narrowed := true }
def MatchPerfectUptoSaid : Prop := matchPerfectUptoRow.holds Try.pinned (OpenSpec.upto matchPerfectSpec)

/-- 'isoclinelaw13.MatchParts', WHERE WHAT IT READS IS OF BULK AT MOST 1048576: true; the input reads as it did. -/
def matchPartsUptoRow : OpenClaim := { program := "ytjbhnfejpgjghaa", sum := "66c4708603c6b2f7cd0f7da63e0ba3cfc7a9861bf91e6b0a88a4047f533942d1", func := "isocline/isoclinelaw13.MatchParts", spec := "matchParts", unfollowed := true, recurses := true, plainKeys := false, apart := false, narrowed := true }
def MatchPartsUptoSaid : Prop := matchPartsUptoRow.holds Try.pinned (OpenSpec.upto matchPartsSpec)

/-- 'isoclinelaw13.MatchCovers', WHERE WHAT IT READS IS OF BULK AT MOST 1048576: true; the input reads as it did. -/
def matchCoversUptoRow : OpenClaim := { program := "ytjbhnfejpgjghaa", sum := "66c4708603c6b2f7cd0f7da63e0ba3cfc7a9861bf91e6b0a88a4047f533942d1", func := "isocline/isoclinelaw13.MatchCovers", spec := "matchCovers", unfollowed := true, recurses := true, plainKeys := false, apart := false, narrowed := true }
def MatchCoversUptoSaid : Prop := matchCoversUptoRow.holds Try.pinned (OpenSpec.upto matchCoversSpec)

/-- 'isoclinelaw13.MatchMaximum', WHERE WHAT IT READS IS OF BULK AT MOST 1048576: true; the input reads as it did. -/
def matchMaximumUptoRow : OpenClaim := { program := "ytjbhnfejpgjghaa", sum := "66c4708603c6b2f7cd0f7da63e0ba3cfc7a9861bf91e6b0a88a4047f533942d1", func := "isocline/isoclinelaw13.MatchMaximum", spec := "matchMaximum", unfollowed := true, recurses := true, plainKeys := false, apart := false, narrowed := true }
def MatchMaximumUptoSaid : Prop := matchMaximumUptoRow.holds Try.pinned (OpenSpec.upto matchMaximumSpec)

end Rows
end Go.Proofs.Ytjbhnfejpgjghaa
