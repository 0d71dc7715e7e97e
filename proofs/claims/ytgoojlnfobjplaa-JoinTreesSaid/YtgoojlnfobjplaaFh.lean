/- That the firm arcs and those that are kept make as many trees as there are roots: the law's walk. -/
import Derived.Test.YtgoojlnfobjplaaFe
import Derived.Test.YtgoojlnfobjplaaFg
namespace Go.Proofs.Ytgoojlnfobjplaa
open Go.RowKit Go.Maps
set_option linter.unusedSimpArgs false
set_option linter.unusedVariables false

set_option maxRecDepth 100000 in
theorem law11_JoinTrees (n : Int) (A1 A2 A3 : Option Addr) (n1 c1 n2 c2 n3 c3 : Nat) (fs ls : List (List Int)) (rs : List Int) (w : World) (h1 : L2 w A1 n1 c1 fs) (h2 : L2 w A2 n2 c2 ls) (h3 : L1 w A3 n3 c3 rs) (hn : In64 n) :
    Calls Try.prog 6 #[.int .i64 n, .slice A1 n1 c1, .slice A2 n2 c2, .slice A3 n3 c3] w fun e w' => e = .returned (.bool true) ∧ Below w.heap.size w w' := by
  have hl1 : n1 ≤ 17592186044416 := h1.2.1
  have hl2 : n2 ≤ 17592186044416 := h2.2.1
  go_enter Try.func6, Try.ntmps6
  go_wp2_with fail
  refine (join_Forest n A1 A2 A3 n1 c1 n2 c2 n3 c3 fs ls rs _ h1 h2 h3 hn).mono ?_
  rintro e w1 ⟨A, lb, cb, C, lo, co, er, rfl, hb1, hcount, hlb, hlo⟩
  by_cases he : er = 0
  · subst he
    have hc := hcount rfl
    clear hcount
    have hc1 : (n1 : Int) + (n2 : Int) - (lb : Int) + (lo : Int) = n := hc
    have hc2 : ((n1 : Int) + (n2 : Int) - (lb : Int) + (lo : Int) == n) = true := by simp [hc1]
    have hc1 := Lib.hid hc1
    clear hc
    go_wp2_with fail
    refine (law11_known _).mono ?_
    rintro e w2 ⟨rfl, hb2⟩
    have hb3 := hb1.trans (hb2.mono hb1.size)
    go_wp2_with fail
    go_ret
    exact ⟨rfl, hb3⟩
  · have he' : (er != 0) = true := by simpa using he
    clear hcount
    go_wp2_with fail
    refine (law11_known _).mono ?_
    rintro e w2 ⟨rfl, hb2⟩
    have hb3 := hb1.trans (hb2.mono hb1.size)
    go_wp2_with fail
    go_ret
    exact ⟨rfl, hb3⟩

end Go.Proofs.Ytgoojlnfobjplaa
