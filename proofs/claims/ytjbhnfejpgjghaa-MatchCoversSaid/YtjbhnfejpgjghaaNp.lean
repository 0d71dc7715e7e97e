/- The greatest weight: what is computed (plain), for the program and the reference. -/
import Derived.Test.YtjbhnfejpgjghaaMc
import Derived.Test.YtjbhnfejpgjghaaNo
namespace Go.Proofs.Ytjbhnfejpgjghaa
open Go.RowKit
set_option linter.unusedSimpArgs false
set_option linter.unusedVariables false

/-- one row's columns from the k-th on; out is the best so far -/
def heavyL (rec : Nat → Int) (s : Nat) : Nat → List Int → Int → Int
  | _, [], out => out
  | k, x :: xs, out => if (decide (x < 0) || s.testBit k) = true then heavyL rec s (k + 1) xs out
    else heavyL rec s (k + 1) xs (if 0 ≤ rec (s ||| 2 ^ k) then max out (rec (s ||| 2 ^ k) + x) else out)

/-- the greatest sum of the last m rows with the columns that are not in s, -1 for none -/
def heavy (ls : List (List Int)) : Nat → Nat → Int
  | 0, _ => 0
  | m + 1, s => heavyL (heavy ls m) s 0 (ls.getD (ls.length - (m + 1)) []) (-1)

theorem heavyL_bd {rec : Nat → Int} {s : Nat} {B : Int} (hB : ∀ t, -1 ≤ rec t ∧ rec t ≤ B) (h0 : 0 ≤ B) : ∀ (l : List Int) (k : Nat) (out : Int), (∀ x ∈ l, x ≤ 3) → -1 ≤ out → out ≤ B + 3 → -1 ≤ heavyL rec s k l out ∧ heavyL rec s k l out ≤ B + 3 := by
  intro l
  induction l with
  | nil => intro k out _ h1 h2; exact ⟨h1, h2⟩
  | cons x l ih =>
    intro k out hx h1 h2
    have hx3 := hx x (List.mem_cons_self ..)
    have hl : ∀ y ∈ l, y ≤ 3 := fun y hy => hx y (List.mem_cons_of_mem _ hy)
    unfold heavyL
    split
    · exact ih _ _ hl h1 h2
    · have := hB (s ||| 2 ^ k)
      apply ih _ _ hl
      · split <;> omega
      · split <;> omega

theorem heavy_bd {ls : List (List Int)} (h : ∀ l ∈ ls, ∀ x ∈ l, x ≤ 3) : ∀ m s, -1 ≤ heavy ls m s ∧ heavy ls m s ≤ 3 * (m : Int) := by
  intro m
  induction m with
  | zero => intro s; show (-1 : Int) ≤ 0 ∧ (0 : Int) ≤ _; omega
  | succ m ih =>
    intro s
    have h1 : ∀ x ∈ ls.getD (ls.length - (m + 1)) [], x ≤ 3 := by
      intro x hx
      rw [List.getD_eq_getElem?_getD] at hx
      cases hg : ls[ls.length - (m + 1)]? with
      | none => rw [hg] at hx; cases hx
      | some l => rw [hg] at hx; exact h l (List.mem_of_getElem? hg) x hx
    have := heavyL_bd (rec := heavy ls m) (s := s) (B := 3 * (m : Int)) (fun t => ih t) (by omega) (ls.getD (ls.length - (m + 1)) []) 0 (-1) h1 (by omega) (by omega)
    show -1 ≤ heavyL _ _ _ _ _ ∧ heavyL _ _ _ _ _ ≤ _
    omega

theorem isT_of {ls : List (List Int)} (h : isT ls = true) : 1 ≤ ls.length ∧ ls.length ≤ 10 ∧ ∀ l ∈ ls, l.length = ls.length ∧ ∀ x ∈ l, -1 ≤ x ∧ x ≤ 3 := by
  unfold isT at h
  simp only [Bool.and_eq_true, Bool.not_eq_true', Bool.or_eq_false_iff, decide_eq_false_iff_not] at h
  obtain ⟨⟨h1, h2⟩, h3⟩ := h
  refine ⟨by omega, by omega, fun l hl => ?_⟩
  have h4 := List.all_eq_true.1 h3 l hl
  unfold okR at h4
  simp only [Bool.and_eq_true, beq_iff_eq] at h4
  refine ⟨h4.1, fun x hx => ?_⟩
  have h5 := List.all_eq_true.1 h4.2 x hx
  unfold okX at h5
  simp only [Bool.not_eq_true', Bool.or_eq_false_iff, decide_eq_false_iff_not] at h5
  omega

/-- the least columns with which the greatest weight is left: row by row -/
def leastW (ls : List (List Int)) (s : Nat) (left : Int) (m : Nat) : Nat → List Int → Option Nat
  | _, [] => none
  | k, x :: xs => if (decide (x < 0) || s.testBit k) = true then leastW ls s left m (k + 1) xs
    else if 0 ≤ heavy ls m (s ||| 2 ^ k) ∧ heavy ls m (s ||| 2 ^ k) = left - x then some k else leastW ls s left m (k + 1) xs

/-- .. for the first i rows: what was chosen, the set, the rest -/
def walkW (ls : List (List Int)) : Nat → List Int × Nat × Int
  | 0 => ([], 0, heavy ls ls.length 0)
  | i + 1 => match leastW ls (walkW ls i).2.1 (walkW ls i).2.2 (ls.length - (i + 1)) 0 (ls.getD i []) with
    | none => walkW ls i
    | some k => ((walkW ls i).1 ++ [(k : Int)], (walkW ls i).2.1 ||| 2 ^ k, (walkW ls i).2.2 - (ls.getD i []).getD k 0)

end Go.Proofs.Ytjbhnfejpgjghaa
