/- The quotient of words: quotient and remainder. -/
import Derived.Test.YtgoojlnfobjplaaZk5
namespace Go.Proofs.Ytgoojlnfobjplaa
open Go.RowKit
set_option linter.unusedSimpArgs false
set_option linter.unusedVariables false

theorem num_quoWords (A B : Option Addr) (n c m d : Nat) (xs ys : List Nat) (w : World) (hx : U32 w A n c xs) (hy : U32 w B m d ys) (tx : Tr xs) (ty : Tr ys) (hn : n ≤ 300000) (hm : m ≤ 300000) (h0 : 0 < m) :
    Calls Try.prog 81 #[.slice A n c, .slice B m d] w (PQuo w xs ys) := by
  rcases Nat.lt_or_ge (val xs) (val ys) with hlt | hge
  · exact num_quoWords1 A B n c m d xs ys w hx hy tx ty hn hm hlt
  · have hle : Hid (cmpN (val xs) (val ys) = 0 ∨ cmpN (val xs) (val ys) = 1) := by
      rcases Nat.lt_or_ge (val ys) (val xs) with h | h
      · exact .inr (cmpN_gt h)
      · exact .inl (cmpN_eq (Nat.le_antisymm h hge))
    have hmn : m ≤ n := by
      have h := len_le_of_val hx.2.1 ty hge
      rwa [hx.1, hy.1] at h
    rcases Nat.lt_or_ge m 2 with h1 | h1
    · obtain rfl : m = 1 := by omega
      obtain ⟨y, rfl⟩ : ∃ y, ys = [y] := by
        have h := hy.1
        match ys, h with
        | [y], _ => exact ⟨y, rfl⟩
      have hy0 : 0 < y := by
        rcases Nat.eq_zero_or_pos y with h | h
        · subst h
          exact absurd rfl ty
        · exact h
      exact num_quoWords2 A B n c d xs y w hx hy tx ty hn hy0 hle
    · exact num_quoWords3 A B n c m d xs ys w hx hy tx ty hn h1 hmn hle

end Go.Proofs.Ytgoojlnfobjplaa
