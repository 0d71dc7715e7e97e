/- isSet. -/
import Derived.Test.YtgjmbmlmopomgaaCh
namespace Go.Proofs.Ytgjmbmlmopomgaa
open Go.RowKit
set_option linter.unusedSimpArgs false
set_option linter.unusedVariables false

def lessAt (l : List ByteArray) (i : Nat) : Bool := Op.bytesLess (l.getD (i - 1) ⟨#[]⟩).toList (l.getD i ⟨#[]⟩).toList
def rises (l : List ByteArray) : Bool := (List.range l.length).all fun i => i == 0 || lessAt l i
theorem rises_not {l : List ByteArray} {i n : Nat} (hl : l.length = n) (h1 : 1 ≤ i) (hi : i < n) (h : lessAt l i = false) : rises l = false := by
  unfold rises
  rw [List.all_eq_false]
  exact ⟨i, List.mem_range.2 (by omega), by simp [h]; omega⟩
theorem rises_yes {l : List ByteArray} {n : Nat} (hl : l.length = n) (h : ∀ i, 1 ≤ i → i < n → lessAt l i = true) : rises l = true := by
  unfold rises
  rw [List.all_eq_true]
  intro i hi
  rw [List.mem_range] at hi
  rcases Nat.eq_zero_or_pos i with h0 | h0
  · simp [h0]
  · simp [h i h0 (by omega)]
theorem lessAt_eq {l : List ByteArray} {i : Nat} {x y : ByteArray} (hx : l[i]? = some x) (hy : l[i - 1]? = some y) : lessAt l i = Op.bytesLess y.toList x.toList := by
  unfold lessAt
  rw [List.getD_eq_getElem?_getD, List.getD_eq_getElem?_getD, hx, hy]
  rfl

set_option maxRecDepth 100000 in
set_option maxHeartbeats 4000000 in
theorem m_set (s : SL) (w : World) (hs : s.ok w) : Calls Try.prog 48 #[.slice s.A s.n s.c] w fun e w' => e = .returned (.bool (rises s.l)) ∧ Below w.heap.size w w' := by
  obtain ⟨A, n, cc, l⟩ := s
  have hl := hs.1
  replace hs := Lib.hid hs
  have hn : n ≤ 17592186044416 := Nat.le_trans hs.out.2.2.1 (by decide)
  simp only at hl ⊢
  have hb := Below.refl w.heap.size w
  go_enter Try.func48, Try.ntmps48
  go_wp2_with fail
  go_loopw [3] (fun v3 wr => Below w.heap.size w wr ∧ ∃ i : Nat, 1 ≤ i ∧ v3 = .int .i64 (i : Int) ∧ ∀ j, 1 ≤ j → j < i → j < n → lessAt l j = true) (fun i _ => n - (intOf i).toNat)
  case atStart => exact ⟨hb, 1, by omega, rfl, fun j h1 h2 _ => by omega⟩
  case round =>
    obtain ⟨hbr, i, hi, rfl, hP⟩ := hrel
    replace hP := Lib.hid hP
    have hin : (i : Int) - 1 = ((i - 1 : Nat) : Int) := by omega
    have h1i : 1 ≤ (i : Int) := by omega
    by_cases hlt : i < n
    · obtain ⟨g, o, x, hA, hg, hx, hxs, c0⟩ := (hs.out.below hbr (Nat.le_refl _)).cell hlt
      simp only at hA hx
      subst hA
      obtain ⟨g2, o2, y, hA, -, hy, hys, c1⟩ := (hs.out.below hbr (Nat.le_refl _)).cell (j := i - 1) (by simp only; omega)
      simp only at hA hy
      cases hA
      have hL := Lib.hid (lessAt_eq hx hy)
      clear hx hy
      have hbd : Below w.heap.size w wr.drew := hbr.drew
      cases hle : Op.bytesLess y.toList x.toList with
      | true =>
        go_wp2_with fail
        go_region
        all_goals go_wp2_with fail
        all_goals go_roundw
        all_goals (first
          | (case rel => exact ⟨hbd, i + 1, by omega, by go_num, fun j h1 h2 h3 => by
              by_cases hji : j = i
              · rw [hji, hL.out]; exact hle
              · exact hP.out j h1 (by omega) h3⟩)
          | (case measure => simp [intOf]; omega))
      | false =>
        have hv : Hid (rises l = false) := rises_not hl hi hlt (by rw [hL.out]; exact hle)
        go_wp2_with fail
        go_region
        all_goals go_wp2_with fail
        all_goals go_ret
        all_goals exact ⟨by rw [hv.out]; rfl, hbd⟩
    · have hv : Hid (rises l = true) := rises_yes hl fun j h1 h2 => hP.out j h1 (by omega) h2
      go_wp2_with fail
      go_ret
      exact ⟨by rw [hv.out]; rfl, hbr⟩

end Go.Proofs.Ytgjmbmlmopomgaa
