/- The greatest weight is at least that of any choice (plain). -/
import Derived.Test.YtjbhnfejpgjghaaNp
namespace Go.Proofs.Ytjbhnfejpgjghaa
open Go.RowKit
set_option linter.unusedSimpArgs false
set_option linter.unusedVariables false

theorem heavyL_out (rec : Nat → Int) (s : Nat) : ∀ (l : List Int) (k : Nat) (out : Int), out ≤ heavyL rec s k l out := by
  intro l
  induction l with
  | nil => intro k out; exact Int.le_refl _
  | cons x l ih =>
    intro k out
    unfold heavyL
    split
    · exact ih _ _
    · refine Int.le_trans ?_ (ih _ _)
      split <;> omega

theorem heavyL_ge (rec : Nat → Int) (s : Nat) : ∀ (l : List Int) (k p : Nat) (x out : Int), l[p]? = some x → 0 ≤ x → s.testBit (k + p) = false → 0 ≤ rec (s ||| 2 ^ (k + p)) → rec (s ||| 2 ^ (k + p)) + x ≤ heavyL rec s k l out := by
  intro l
  induction l with
  | nil => intro k p x out h; simp at h
  | cons y l ih =>
    intro k p x out h h0 hs hr
    cases p with
    | zero =>
      have e : y = x := by simpa using h
      subst e
      rw [Nat.add_zero] at hs hr ⊢
      unfold heavyL
      rw [if_neg (by rw [hs]; simp; omega)]
      refine Int.le_trans ?_ (heavyL_out _ _ _ _ _)
      rw [if_pos hr]
      omega
    | succ p =>
      have h' : l[p]? = some x := by simpa using h
      have e : k + (p + 1) = k + 1 + p := by omega
      rw [e] at hs hr ⊢
      unfold heavyL
      split
      · exact ih _ _ _ _ h' h0 hs hr
      · exact ih _ _ _ _ h' h0 hs hr

/-- a choice of different columns for the last m rows, none of s -/
def Pick (ls : List (List Int)) : Nat → Nat → List Nat → Prop
  | 0, _, f => f = []
  | m + 1, s, f => ∃ k x g, f = k :: g ∧ (ls.getD (ls.length - (m + 1)) [])[k]? = some x ∧ 0 ≤ x ∧ s.testBit k = false ∧ Pick ls m (s ||| 2 ^ k) g
def pickSum (ls : List (List Int)) : Nat → List Nat → Int
  | 0, _ => 0
  | _ + 1, [] => 0
  | m + 1, k :: g => (ls.getD (ls.length - (m + 1)) []).getD k 0 + pickSum ls m g

theorem heavy_ge (ls : List (List Int)) : ∀ (m s : Nat) (f : List Nat), Pick ls m s f → 0 ≤ pickSum ls m f ∧ pickSum ls m f ≤ heavy ls m s := by
  intro m
  induction m with
  | zero => intro s f _; exact ⟨Int.le_refl _, Int.le_refl _⟩
  | succ m ih =>
    intro s f ⟨k, x, g, hf, hx, h0, hs, hp⟩
    subst hf
    have hi := ih _ _ hp
    have e : (ls.getD (ls.length - (m + 1)) []).getD k 0 = x := by rw [List.getD_eq_getElem?_getD, hx]; rfl
    have hg := heavyL_ge (heavy ls m) s (ls.getD (ls.length - (m + 1)) []) 0 k x (-1) hx h0 (by rw [Nat.zero_add]; exact hs) (by rw [Nat.zero_add]; omega)
    rw [Nat.zero_add] at hg
    show 0 ≤ _ + _ ∧ _ + _ ≤ heavyL _ _ _ _ _
    rw [e]
    omega

theorem heavyL_get (rec : Nat → Int) (s : Nat) : ∀ (l : List Int) (k : Nat) (out : Int), heavyL rec s k l out = out ∨ ∃ p x, l[p]? = some x ∧ 0 ≤ x ∧ s.testBit (k + p) = false ∧ 0 ≤ rec (s ||| 2 ^ (k + p)) ∧ heavyL rec s k l out = rec (s ||| 2 ^ (k + p)) + x := by
  intro l
  induction l with
  | nil => intro k out; exact .inl rfl
  | cons y l ih =>
    intro k out
    have up : ∀ o, (∃ p x, l[p]? = some x ∧ 0 ≤ x ∧ s.testBit (k + 1 + p) = false ∧ 0 ≤ rec (s ||| 2 ^ (k + 1 + p)) ∧ heavyL rec s (k + 1) l o = rec (s ||| 2 ^ (k + 1 + p)) + x) → ∃ p x, (y :: l)[p]? = some x ∧ 0 ≤ x ∧ s.testBit (k + p) = false ∧ 0 ≤ rec (s ||| 2 ^ (k + p)) ∧ heavyL rec s (k + 1) l o = rec (s ||| 2 ^ (k + p)) + x := by
      intro o ⟨p, x, h1, h2, h3, h4, h5⟩
      have e : k + 1 + p = k + (p + 1) := by omega
      rw [e] at h3 h4 h5
      exact ⟨p + 1, x, by simpa using h1, h2, h3, h4, h5⟩
    unfold heavyL
    split
    · rcases ih (k + 1) out with h | h
      · exact .inl h
      · exact .inr (up _ h)
    · rename_i hc
      have hy : 0 ≤ y ∧ s.testBit k = false := by
        simp at hc
        exact hc
      rcases ih (k + 1) (if 0 ≤ rec (s ||| 2 ^ k) then max out (rec (s ||| 2 ^ k) + y) else out) with h | h
      · by_cases h0 : 0 ≤ rec (s ||| 2 ^ k)
        · rw [if_pos h0] at h ⊢
          by_cases hm : out ≤ rec (s ||| 2 ^ k) + y
          · exact .inr ⟨0, y, rfl, hy.1, by simpa using hy.2, by simpa using h0, by rw [h]; simp; omega⟩
          · exact .inl (by rw [h]; omega)
        · rw [if_neg h0] at h ⊢
          exact .inl h
      · exact .inr (up _ h)

theorem leastW_some {ls : List (List Int)} {s m : Nat} {left : Int} : ∀ (l : List Int) (k j : Nat), leastW ls s left m k l = some j → ∃ p x, j = k + p ∧ l[p]? = some x ∧ 0 ≤ x ∧ s.testBit j = false ∧ 0 ≤ heavy ls m (s ||| 2 ^ j) ∧ heavy ls m (s ||| 2 ^ j) = left - x := by
  intro l
  induction l with
  | nil => intro k j h; cases h
  | cons y l ih =>
    intro k j h
    have up : (∃ p x, j = k + 1 + p ∧ l[p]? = some x ∧ 0 ≤ x ∧ s.testBit j = false ∧ 0 ≤ heavy ls m (s ||| 2 ^ j) ∧ heavy ls m (s ||| 2 ^ j) = left - x) → ∃ p x, j = k + p ∧ (y :: l)[p]? = some x ∧ 0 ≤ x ∧ s.testBit j = false ∧ 0 ≤ heavy ls m (s ||| 2 ^ j) ∧ heavy ls m (s ||| 2 ^ j) = left - x := by
      intro ⟨p, x, h1, h2, h3⟩
      exact ⟨p + 1, x, by omega, by simpa using h2, h3⟩
    unfold leastW at h
    split at h
    · exact up (ih _ _ h)
    · rename_i hc
      split at h
      · rename_i hq
        injection h with h
        subst h
        simp at hc
        exact ⟨0, y, rfl, rfl, hc.1, hc.2, hq.1, hq.2⟩
      · exact up (ih _ _ h)

theorem leastW_none {ls : List (List Int)} {s m : Nat} {left : Int} : ∀ (l : List Int) (k : Nat), leastW ls s left m k l = none → ∀ p x, l[p]? = some x → 0 ≤ x → s.testBit (k + p) = false → 0 ≤ heavy ls m (s ||| 2 ^ (k + p)) → heavy ls m (s ||| 2 ^ (k + p)) ≠ left - x := by
  intro l
  induction l with
  | nil => intro k _ p x h; simp at h
  | cons y l ih =>
    intro k h p x hx h0 hs hr
    unfold leastW at h
    have up : leastW ls s left m (k + 1) l = none → ∀ p, p ≠ 0 → (y :: l)[p]? = some x → s.testBit (k + p) = false → 0 ≤ heavy ls m (s ||| 2 ^ (k + p)) → heavy ls m (s ||| 2 ^ (k + p)) ≠ left - x := by
      intro hn p hp hx hs hr
      obtain ⟨q, rfl⟩ : ∃ q, p = q + 1 := ⟨p - 1, by omega⟩
      have e : k + (q + 1) = k + 1 + q := by omega
      rw [e] at hs hr ⊢
      exact ih _ hn q x (by simpa using hx) h0 hs hr
    split at h
    · rename_i hc
      by_cases hp : p = 0
      · subst hp
        have e : y = x := by simpa using hx
        subst e
        rw [Nat.add_zero] at hs
        rw [hs] at hc
        simp at hc
        omega
      · exact up h p hp hx hs hr
    · split at h
      · cases h
      · rename_i hq
        by_cases hp : p = 0
        · subst hp
          have e : y = x := by simpa using hx
          subst e
          rw [Nat.add_zero] at hr ⊢
          exact fun e => hq ⟨hr, e⟩
        · exact up h p hp hx hs hr

/-- as long as there is one, one is found -/
theorem leastW_found {ls : List (List Int)} {s m : Nat} (h : 0 ≤ heavy ls (m + 1) s) : ∃ k, leastW ls s (heavy ls (m + 1) s) m 0 (ls.getD (ls.length - (m + 1)) []) = some k := by
  cases hw : leastW ls s (heavy ls (m + 1) s) m 0 (ls.getD (ls.length - (m + 1)) []) with
  | some k => exact ⟨k, rfl⟩
  | none =>
    exfalso
    rcases heavyL_get (heavy ls m) s (ls.getD (ls.length - (m + 1)) []) 0 (-1) with h1 | ⟨p, x, h1, h2, h3, h4, h5⟩
    · have : heavy ls (m + 1) s = -1 := h1
      omega
    · have h6 : heavy ls (m + 1) s = heavy ls m (s ||| 2 ^ (0 + p)) + x := h5
      exact leastW_none _ _ hw p x h1 h2 h3 h4 (by omega)

end Go.Proofs.Ytjbhnfejpgjghaa
