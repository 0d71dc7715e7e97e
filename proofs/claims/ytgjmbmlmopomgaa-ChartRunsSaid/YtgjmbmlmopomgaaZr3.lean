/- Two operations that may come up. -/
import Derived.Test.YtgjmbmlmopomgaaZr1
namespace Go.Proofs.Ytgjmbmlmopomgaa
open Go
set_option linter.unusedSimpArgs false
set_option linter.unusedVariables false
section
variable {P : Program} {ops : Array Oper} {Q : Exit → Act → World → Prop} {md : Region.Mode} {S : World → Prop} {K : List Nat}
/-- the two operations that may come up -/
theorem AnyK.two {i j : Nat} {oi oj : Oper} {fuel : Nat} {listed : Array Bool} {a : Act} {w : World} (hr : Region.ready md ops listed = [i, j]) (hoi : ops[i]? = some oi) (hoj : ops[j]? = some oj)
    (hi : ∀ K' : Act → World → Prop, Shut (∀ a' w', (K.all (fun k => !((listed.setIfInBounds i true).getD k true)) = true → S w') → AnyK P md ops Q S K fuel (listed.setIfInBounds i true) a' w' → K' a' w') →
      if Region.wanted oi (yielded ops a.tmps) = true then oi.wp P a w K' Q else K' (a.put oi.dst undef) w)
    (hj : ∀ K' : Act → World → Prop, Shut (∀ a' w', (K.all (fun k => !((listed.setIfInBounds j true).getD k true)) = true → S w') → AnyK P md ops Q S K fuel (listed.setIfInBounds j true) a' w' → K' a' w') →
      if Region.wanted oj (yielded ops a.tmps) = true then oj.wp P a w K' Q else K' (a.put oj.dst undef) w) : AnyK P md ops Q S K (fuel + 1) listed a w := by
  refine ⟨fun h0 => (by rw [h0] at hr; cases hr), fun x hx => ?_⟩
  rw [hr] at hx
  rcases List.mem_cons.1 hx with rfl | hx
  · exact wpOp_step hoi (fun K' hK => hi K' (fun a w hS hW => hK a w ⟨fun hoff => hS (List.all_eq_true.2 fun k hk => by rw [hoff k hk]; rfl), hW⟩))
  · obtain rfl : x = j := by simpa using hx
    exact wpOp_step hoj (fun K' hK => hj K' (fun a w hS hW => hK a w ⟨fun hoff => hS (List.all_eq_true.2 fun k hk => by rw [hoff k hk]; rfl), hW⟩))

end

end Go.Proofs.Ytgjmbmlmopomgaa
