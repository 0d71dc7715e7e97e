/- What the quotient of words is to tell. -/
import Derived.Test.YtgoojlnfobjplaaZh
namespace Go.Proofs.Ytgoojlnfobjplaa
open Go.RowKit
set_option linter.unusedSimpArgs false
set_option linter.unusedVariables false

def PQuo (w : World) (xs ys : List Nat) (e : Ending) (w' : World) : Prop :=
  ∃ C l k qs D p r rs, e = .returned (.tuple #[.slice C l k, .slice D p r]) ∧ U32 w' C l k qs ∧ U32 w' D p r rs ∧ val qs = val xs / val ys ∧ val rs = val xs % val ys ∧ l ≤ 700000 ∧ p ≤ 700000 ∧ Below w.heap.size w w'

end Go.Proofs.Ytgoojlnfobjplaa
