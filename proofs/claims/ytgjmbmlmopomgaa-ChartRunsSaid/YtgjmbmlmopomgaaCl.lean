/- For the program's Validate: two places, the closure isState. -/
import Derived.Test.YtgjmbmlmopomgaaCk
namespace Go.Proofs.Ytgjmbmlmopomgaa
open Go.RowKit
set_option linter.unusedSimpArgs false
set_option linter.unusedVariables false

theorem eq_place (a b c d : Int) (w : World) : (Op.equalIn 10000 47 (.agg #[.int .i64 a, .int .i64 b]) (.agg #[.int .i64 c, .int .i64 d])).run Try.prog w = .ok (a == c && b == d) w := by
  have u3 := Try.underlying3
  have a3 := Try.isAgg3
  have z3 := Try.sizeOf3
  rw [show (10000 : Nat) = 9999 + 1 from rfl, Op.equalIn]
  simp only [Sem.run_bind, run_underlying Try.underlying47, Result.andThen_ok]
  go_simp
  by_cases h1 : a = c <;> by_cases h2 : b = d <;> simp [h1, h2]

set_option maxRecDepth 100000 in
theorem m_isState (gM : Nat) (om os fst : Int) (sA mA : Option Addr) (sn sc mn mc : Nat) (z : Int) (w : World) (hB : Blk w gM 50 #[.int .i64 om, .int .i64 os, .slice sA sn sc, .int .i64 fst, .slice mA mn mc]) :
    Calls Try.prog 26 #[.int .i64 z, .pointer (some ⟨gM, 0, none⟩)] w fun e w' => e = .returned (.bool (okIdx sn z)) ∧ w' = w := by
  have a2 := hB.cell 2
  simp only [List.getElem?_toArray, List.getElem?_cons_zero, List.getElem?_cons_succ] at a2
  clear hB
  have hv : Hid (okIdx sn z = (decide (0 ≤ z) && decide (z < (sn : Int)))) := rfl
  cases h1 : decide (0 ≤ z) <;> cases h2 : decide (z < (sn : Int))
  all_goals
    go_enter Try.func26, Try.ntmps26
    go_wp2_with fail
    go_ret
    exact ⟨by rw [hv.out, h1, h2]; rfl, rfl⟩

end Go.Proofs.Ytgjmbmlmopomgaa
