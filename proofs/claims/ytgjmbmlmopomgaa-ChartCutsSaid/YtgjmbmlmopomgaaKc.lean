/- Rows of texts that came in. -/
import Derived.Test.YtgjmbmlmopomgaaKb
import Derived.Test.YtgjmbmlmopomgaaEa
namespace Go.Proofs.Ytgjmbmlmopomgaa.opens
open Go.ChangeShapes Go.WideShapes Go.ChangeAt Go.RowKit
open Go.Deep
set_option linter.unusedSimpArgs false
set_option linter.unusedVariables false
section
variable {H : Type} {enc : TypeId × Value → H} {W : World} {fuel : Nat} {v : Value} {y : DataW H × List MemPlace}
theorem rl_of (h : DataW.trod enc Try.prog W 0 (fun _ => true) true fuel 54 [v] = some y) (hz : Sz 54 y.1) : ∃ s : RL, v = .slice s.A s.n s.c ∧ s.ok W := by
  rcases row_of Try.underlying54 cStrs (by decide) yStrs h hz with rfl | ⟨a, len, cap, n, D, Pl, rfl, hl, hb, hp, hi⟩
  · exact ⟨⟨none, 0, 0, []⟩, rfl, rfl, Nat.le_refl _, Nat.zero_le _, fun x hx => by simp at hx, .inl rfl⟩
  · obtain ⟨l, hll, hlp⟩ := collect (P := fun i (x : SL) => x.ok W ∧ W.cell? ⟨a.block, a.off + i, none⟩ = some (.slice x.A x.n x.c)) len fun i hil => by
      obtain ⟨cs, h1, h2, h3, h4⟩ := hi i hil
      match cs, h1 with
      | [c0], _ =>
        obtain ⟨s, rfl, hs, -⟩ := sl_of h3 h4
        have := h2 0 _ rfl
        rw [Nat.mul_one, Nat.add_zero] at this
        exact ⟨s, hs, this⟩
    refine ⟨⟨some a, len, cap, l⟩, rfl, hll, hl, by rw [rb] at hb; show len ≤ _; omega, fun x hx => ?_, ?_⟩
    · obtain ⟨j, hj, rfl⟩ := List.mem_iff_getElem.1 hx
      exact (hlp j _ (List.getElem?_eq_getElem hj)).1
    · rcases Nat.eq_zero_or_pos len with h0 | h0
      · exact .inl h0
      · exact .inr ⟨a.block, a.off, by rw [← (hp h0).1], (hp h0).2, fun j x hj => (hlp j x hj).2⟩
end

end Go.Proofs.Ytgjmbmlmopomgaa.opens
