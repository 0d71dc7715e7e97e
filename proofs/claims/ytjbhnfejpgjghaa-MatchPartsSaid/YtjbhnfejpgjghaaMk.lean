/- same; Validate. -/
import Derived.Test.YtjbhnfejpgjghaaMj
namespace Go.Proofs.Ytjbhnfejpgjghaa
open Go.RowKit
set_option linter.unusedSimpArgs false
set_option linter.unusedVariables false

/-- a slice that reads as these numbers -/
def IL (w : World) (A : Option Addr) (n c : Nat) (l : List Int) : Prop :=
  l.length = n ∧ n ≤ 1000000 ∧ (n = 0 ∨ ∃ g o, A = some ⟨g, o, none⟩ ∧ g < w.heap.size ∧ ∀ (j : Nat) (x : Int), l[j]? = some x → w.cell? ⟨g, o + j, none⟩ = some (.int .i64 x))
theorem IL.nil (w : World) : IL w none 0 0 [] := ⟨rfl, by omega, .inl rfl⟩
theorem IL.below {w w' : World} {A n c l} (h : IL w A n c l) (hb : Below w.heap.size w w') : IL w' A n c l := by
  obtain ⟨h1, h2, h4⟩ := h
  refine ⟨h1, h2, ?_⟩
  rcases h4 with h4 | ⟨g, o, rfl, hg, hc⟩
  · exact .inl h4
  · exact .inr ⟨g, o, rfl, Nat.lt_of_lt_of_le hg hb.size, fun j x hj => (hb.cell (p := ⟨g, o + j, none⟩) hg).trans (hc j x hj)⟩
theorem RF.il {w : World} {g n : Nat} {f : Nat → Int} (h : RF w g n f) (hn : n ≤ 1000000) : IL w (some ⟨g, 0, none⟩) n n ((List.range n).map f) := by
  refine ⟨by simp, hn, .inr ⟨g, 0, rfl, h.lt, fun j x hj => ?_⟩⟩
  have hl := (List.getElem?_eq_some_iff.1 hj).1
  simp at hl
  simp [hl] at hj
  subst hj
  rw [Nat.zero_add]
  exact h.cell hl
theorem IL.cell {w : World} {A : Option Addr} {n c : Nat} {l : List Int} (h : IL w A n c l) {j : Nat} (hj : j < n) : ∃ g o x, A = some ⟨g, o, none⟩ ∧ g < w.heap.size ∧ l[j]? = some x ∧ w.cell? ⟨g, o + j, none⟩ = some (.int .i64 x) := by
  obtain ⟨h1, h2, h4⟩ := h
  rcases h4 with h4 | ⟨g, o, rfl, hg, hc⟩
  · omega
  · have e : l[j]? = some l[j] := List.getElem?_eq_getElem (by omega)
    exact ⟨g, o, _, rfl, hg, e, hc j _ e⟩

set_option maxRecDepth 100000 in
theorem law13_same (A B : Option Addr) (n m c d : Nat) (l : List Int) (w : World) (hA : IL w A n c l) (hB : IL w B m d l) :
    Calls Try.prog 11 #[.slice A n c, .slice B m d] w fun e w' => e = .returned (.bool true) ∧ Below w.heap.size w w' := by
  obtain rfl : n = m := hA.1.symm.trans hB.1
  have hn : n ≤ 1000000 := hA.2.1
  go_enter Try.func11, Try.ntmps11
  go_wp2_with fail
  go_loopw [13] (fun v13 wr => ∃ j : Nat, j ≤ n ∧ v13 = .int .i64 j ∧ Hid (Below w.heap.size w wr)) (fun j _ => n - (intOf j).toNat)
  case atStart => exact ⟨0, by omega, rfl, Below.refl _ _⟩
  case round =>
    obtain ⟨j, hj, rfl, hb⟩ := hrel
    by_cases hlt : j < n
    · obtain ⟨g1, o1, x, rfl, hg1, hx, hc1⟩ := hA.cell hlt
      obtain ⟨g2, o2, y, rfl, hg2, hy, hc2⟩ := hB.cell hlt
      obtain rfl : x = y := by rw [hx] at hy; injection hy
      have hc1 := (hb.out.cell (p := ⟨g1, o1 + j, none⟩) hg1).trans hc1
      have hc2 := (hb.out.cell (p := ⟨g2, o2 + j, none⟩) hg2).trans hc2
      have hxx : ((x : Int) != (x : Int)) = false := by simp
      clear hy hx
      go_wp2_with fail
      go_quiet (fail)
      go_wp2_with fail
      go_roundw
      case rel => exact ⟨j + 1, by omega, by go_num, bdN hb.out _⟩
      case measure => simp [intOf]; omega
    · have : n = j := by omega
      subst this
      go_wp2_with fail
      go_ret
      exact ⟨rfl, hb.out⟩

/-! ## Validate -/
def goodE (C : Int) (l : List Int) (i : Nat) : Bool := !(decide (l.getD i 0 < 0) || decide (C ≤ l.getD i 0) || (decide (0 < i) && decide (l.getD i 0 ≤ l.getD (i - 1) 0)))
def goodL (C : Int) (l : List Int) : Bool := (List.range l.length).all (goodE C l)
def valid (rows cols : Int) (ls : List (List Int)) : Bool := !(decide (rows < 0) || decide (64 < rows) || decide (cols < 0) || decide (64 < cols) || (ls.length : Int) != rows) && ls.all (goodL cols)
def vErr (rows cols : Int) (ls : List (List Int)) : Int := if valid rows cols ls = true then 0 else 1

def V1 (wb : World) (n : Nat) (C : Int) (ls : List (List Int)) (v : Value) (wr : World) : Prop := wb = wr ∧ ∃ i : Nat, i ≤ n ∧ v = .int .i64 (i : Int) ∧ Hid ((ls.take i).all (goodL C) = true)
def V2 (wb : World) (n : Nat) (C : Int) (l : List Int) (v : Value) (wr : World) : Prop := wb = wr ∧ ∃ i : Nat, i ≤ n ∧ v = .int .i64 (i : Int) ∧ Hid ((List.range i).all (goodE C l) = true)

theorem v_head {rows cols : Int} {ls : List (List Int)} (h : rows < 0 ∨ 64 < rows ∨ cols < 0 ∨ 64 < cols ∨ (ls.length : Int) ≠ rows) : vErr rows cols ls = 1 := by
  unfold vErr valid
  rw [if_neg]
  rcases h with h | h | h | h | h <;> simp [h]
theorem v_bad {rows cols : Int} {ls : List (List Int)} {i j : Nat} {l : List Int} (hl : ls[i]? = some l) (hj : j < l.length) (h : goodE cols l j = false) : vErr rows cols ls = 1 := by
  unfold vErr valid
  rw [if_neg]
  have h1 : goodL cols l = false := by
    unfold goodL
    rw [List.all_eq_false]
    exact ⟨j, List.mem_range.2 hj, by rw [h]; simp⟩
  have h2 : ls.all (goodL cols) = false := by
    rw [List.all_eq_false]
    exact ⟨l, List.mem_of_getElem? hl, by rw [h1]; simp⟩
  rw [h2]; simp
theorem v_good {rows cols : Int} {ls : List (List Int)} (h : ¬ (rows < 0 ∨ 64 < rows ∨ cols < 0 ∨ 64 < cols ∨ (ls.length : Int) ≠ rows)) (hl : ls.all (goodL cols) = true) : vErr rows cols ls = 0 := by
  unfold vErr valid
  rw [if_pos]
  rw [hl]
  simp
  omega

end Go.Proofs.Ytjbhnfejpgjghaa
