/- MatchCovers: what the walk wants (plain). -/
import Derived.Test.YtjbhnfejpgjghaaQi
import Derived.Test.YtjbhnfejpgjghaaQm
namespace Go.Proofs.Ytjbhnfejpgjghaa
open Go.RowKit
set_option linter.unusedSimpArgs false
set_option linter.unusedVariables false

theorem row_len {rows cols : Int} {ls : List (List Int)} (h : vErr rows cols ls = 0) : ∀ l ∈ nE ls, l.length ≤ 64 := by
  have hv : valid rows cols ls = true := by
    unfold vErr at h
    split at h
    · assumption
    · omega
  unfold valid at hv
  simp only [Bool.and_eq_true, Bool.not_eq_true', Bool.or_eq_false_iff, decide_eq_false_iff_not, bne_eq_false_iff_eq] at hv
  obtain ⟨⟨⟨⟨⟨h1, h2⟩, h3⟩, h4⟩, h5⟩, h6⟩ := hv
  intro l hl
  unfold nE at hl
  obtain ⟨l', hl', rfl⟩ := List.mem_map.1 hl
  rw [List.length_map]
  have h8 := List.all_eq_true.1 h6 l' hl'
  unfold goodL at h8
  have h9 : ∀ j, j < l'.length → (j : Int) ≤ l'.getD j 0 ∧ l'.getD j 0 < cols := by
    intro j
    induction j with
    | zero =>
      intro hj
      have h9 := List.all_eq_true.1 h8 0 (List.mem_range.2 hj)
      unfold goodE at h9
      simp only [Bool.not_eq_true', Bool.or_eq_false_iff, decide_eq_false_iff_not] at h9
      omega
    | succ j ih =>
      intro hj
      have h0 := ih (by omega)
      have h9 := List.all_eq_true.1 h8 (j + 1) (List.mem_range.2 hj)
      unfold goodE at h9
      simp at h9
      simp only [List.getD_eq_getElem?_getD] at h0 ⊢
      omega
  rcases Nat.eq_zero_or_pos l'.length with h0 | h0
  · omega
  · have := h9 (l'.length - 1) (by omega)
    omega

theorem N1.il {B : Nat} {w : World} {A : Option Addr} {n c : Nat} {zs : List Nat} (h : N1 B w A n c zs) (hB : B ≤ w.heap.size) (hl : zs.length ≤ 64) : IL w A n c (zs.map fun (k : Nat) => (k : Int)) := by
  obtain ⟨h1, h2, h3⟩ := h
  refine ⟨by rw [List.length_map]; exact h1, by omega, ?_⟩
  rcases h3 with h3 | ⟨g, o, rfl, hg, hc⟩
  · exact .inl h3
  · refine .inr ⟨g, o, rfl, by omega, fun j x hj => ?_⟩
    rw [List.getElem?_map] at hj
    obtain ⟨k, hk, rfl⟩ := Option.map_eq_some_iff.1 hj
    exact hc j k hk
theorem contains_map (l : List Nat) (k : Nat) : (l.map fun (k : Nat) => (k : Int)).contains (k : Int) = l.contains k := contains_nat l k

theorem pr_eq {α β : Type} {x : α × β} {a c : α} {b d : β} (h : x = (a, b)) (k : x = (c, d)) : c = a ∧ d = b := by
  rw [h] at k
  injection k with k1 k2
  exact ⟨k1.symm, k2.symm⟩
theorem tr_eq {α β γ : Type} {x : α × β × γ} {a c : α} {b d : β} {e f : γ} (h : x = (a, b, e)) (k : x = (c, d, f)) : c = a ∧ d = b ∧ f = e := by
  rw [h] at k
  injection k with k1 k2
  injection k2 with k2 k3
  exact ⟨k1.symm, k2.symm, k3.symm⟩

/-- what Short tells, at a right incidence -/
theorem short_is {E : List (List Nat)} {R C : Nat} (hI : Inc R C E) : ∃ sh is, shortT E R (lst E R C R).out = (sh, is, 0) ∧ is = decide (cnt (lst E R C R).out R < R) ∧ (is = true → sh = shl (shS E R (lst E R C R).out) R ∧ ((List.range C).filter (met E (shS E R (lst E R C R).out) R)).length + 1 = sh.length) := by
  have hl := lst_li (R := R) hI.2.2.2 R (Nat.le_refl _)
  unfold shortT
  rcases idx_cases (lst E R C R).out R (-1) with ⟨j, hj, ej, he⟩ | ⟨hno, he⟩
  · have hs : ∃ r, r < R ∧ (lst E R C R).out r < 0 := ⟨j, hj, by omega⟩
    refine ⟨_, true, if_neg (by omega), ?_, fun _ => ⟨rfl, short_cnt hI hs⟩⟩
    rw [eq_comm, decide_eq_true_iff]
    exact (cnt_full R).2 hs
  · refine ⟨[], false, if_pos (by omega), ?_, fun h => by cases h⟩
    rw [eq_comm, decide_eq_false_iff_not]
    intro h
    obtain ⟨r, hr, hn⟩ := (cnt_full R).1 h
    have := hl.rn r
    exact hno r hr (by omega)

/-- the columns that were met so far -/
def usd (out : Nat → Int) (i k : Nat) : Bool := (List.range i).any fun r => out r == (k : Int)
theorem usd_succ (out : Nat → Int) (i k : Nat) : usd out (i + 1) k = (usd out i k || (out i == (k : Int))) := by
  unfold usd
  rw [List.range_succ, List.any_append]
  simp
theorem usd_step {out : Nat → Int} {i x : Nat} (hx : out i = (x : Int)) : usd out (i + 1) = upd (usd out i) x true := by
  funext k
  rw [usd_succ, hx]
  unfold upd
  by_cases e : k = x
  · rw [if_pos e, e]; simp
  · rw [if_neg e]
    have : ((x : Int) == (k : Int)) = false := by simp; omega
    rw [this, Bool.or_false]
theorem usd_skip {out : Nat → Int} {i : Nat} (hx : out i < 0) : usd out (i + 1) = usd out i := by
  funext k
  rw [usd_succ]
  have : (out i == (k : Int)) = false := by simp; omega
  rw [this, Bool.or_false]
theorem usd_new {E : List (List Nat)} {R C : Nat} {st : LS} (h : LI E R C R st) {i x : Nat} (hx : st.out i = (x : Int)) : usd st.out i x = false := by
  unfold usd
  rw [List.any_eq_false]
  intro r hr e
  have hr := List.mem_range.1 hr
  have e : st.out r = (x : Int) := by simpa using e
  have := h.inj r i (by omega) (by omega)
  omega

/-- counting a set below C -/
def cs' (C : Nat) (g : Nat → Bool) : Nat := ((List.range C).filter g).length
theorem cs_upd {C x : Nat} (g : Nat → Bool) (hx : x < C) : cs' C (upd g x true) = if g x = true then cs' C g else cs' C g + 1 := by
  have key : ∀ n, ((List.range n).filter (upd g x true)).length = ((List.range n).filter g).length + (if x < n ∧ g x = false then 1 else 0) := by
    intro n
    induction n with
    | zero => rfl
    | succ n ih =>
      rw [List.range_succ, List.filter_append, List.filter_append, List.length_append, List.length_append, ih]
      by_cases e : n = x
      · subst e
        cases hg : g n <;> simp [upd, hg]
      · have h1 : upd g x true n = g n := upd_other _ _ _ _ e
        cases hg : g x <;> cases hn : g n <;> simp [h1, hn]
        · by_cases h2 : x < n
          · rw [if_pos h2, if_pos (by omega)]
          · rw [if_neg h2, if_neg (by omega)]
        · by_cases h2 : x < n
          · rw [if_pos h2, if_pos (by omega)]
          · rw [if_neg h2, if_neg (by omega)]
  unfold cs'
  rw [key C]
  cases hg : g x <;> simp [hx]
theorem cs_congr {C : Nat} {g g' : Nat → Bool} (h : ∀ k, k < C → g k = g' k) : cs' C g = cs' C g' := by
  unfold cs'
  congr 1
  apply List.filter_congr
  intro k hk
  exact h k (List.mem_range.1 hk)

end Go.Proofs.Ytjbhnfejpgjghaa
