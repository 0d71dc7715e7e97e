/- Which loose arcs are broken, and the roots: the law's walk. -/
import Derived.Test.YtgoojlnfobjplaaGe
import Derived.Test.YtgoojlnfobjplaaGf
import Derived.Test.YtgoojlnfobjplaaFg
namespace Go.Proofs.Ytgoojlnfobjplaa
open Go.RowKit Go.Maps
set_option linter.unusedSimpArgs false
set_option linter.unusedVariables false

theorem LN.cell {w : World} {A : Option Addr} {n c : Nat} {l : List Nat} (h : LN w A n c l) {j : Nat} (hj : j < n) : ∃ g o x, A = some ⟨g, o, none⟩ ∧ g < w.heap.size ∧ l[j]? = some x ∧ x < 1000 ∧ w.cell? ⟨g, o + j, none⟩ = some (.int .i64 (x : Int)) := by
  obtain ⟨h1, h2, h3, h4⟩ := h
  rcases h4 with h4 | ⟨g, o, rfl, hg, hc⟩
  · omega
  · have e : l[j]? = some l[j] := List.getElem?_eq_getElem (by omega)
    exact ⟨g, o, _, rfl, hg, e, h3 _ (List.mem_of_getElem? e), hc j _ e⟩

set_option maxRecDepth 100000 in
theorem law11_sameInts (A B : Option Addr) (n m c d : Nat) (l : List Nat) (w : World) (hA : LN w A n c l) (hB : LN w B m d l) :
    Calls Try.prog 14 #[.slice A n c, .slice B m d] w fun e w' => e = .returned (.bool true) ∧ Below w.heap.size w w' := by
  obtain rfl : n = m := hA.1.symm.trans hB.1
  have hn : n ≤ 1000 := hA.2.1
  go_enter Try.func14, Try.ntmps14
  go_wp2_with fail
  go_loopw [13] (fun v13 wr => ∃ j : Nat, j ≤ n ∧ v13 = .int .i64 j ∧ Hid (Below w.heap.size w wr)) (fun j _ => n - (intOf j).toNat)
  case atStart => exact ⟨0, by omega, rfl, Below.refl _ _⟩
  case round =>
    obtain ⟨j, hj, rfl, hb⟩ := hrel
    by_cases hlt : j < n
    · obtain ⟨g1, o1, x, rfl, hg1, hx, hxl, hc1⟩ := hA.cell hlt
      obtain ⟨g2, o2, y, rfl, hg2, hy, hyl, hc2⟩ := hB.cell hlt
      obtain rfl : x = y := by rw [hx] at hy; injection hy
      have hc1 := (hb.out.cell (p := ⟨g1, o1 + j, none⟩) hg1).trans hc1
      have hc2 := (hb.out.cell (p := ⟨g2, o2 + j, none⟩) hg2).trans hc2
      have hxx : ((x : Int) != (x : Int)) = false := by simp
      clear hy hx
      go_wp2_with fail
      go_quiet (fail)
      go_wp2_with fail
      go_roundw
      case rel => exact ⟨j + 1, by omega, by go_num, bdN hb.out _⟩
      case measure => simp [intOf]; omega
    · have : n = j := by omega
      subst this
      go_wp2_with fail
      go_ret
      exact ⟨rfl, hb.out⟩

set_option maxRecDepth 100000 in
theorem law11_JoinForests (n : Int) (A1 A2 A3 : Option Addr) (n1 c1 n2 c2 n3 c3 : Nat) (fs ls : List (List Int)) (rs : List Int) (w : World) (h1 : L2 w A1 n1 c1 fs) (h2 : L2 w A2 n2 c2 ls) (h3 : L1 w A3 n3 c3 rs) (hn : In64 n) :
    Calls Try.prog 5 #[.int .i64 n, .slice A1 n1 c1, .slice A2 n2 c2, .slice A3 n3 c3] w fun e w' => e = .returned (.bool true) ∧ Below w.heap.size w w' := by
  go_enter Try.func5, Try.ntmps5
  go_wp2_with fail
  refine (join_ForestS n A1 A2 A3 n1 c1 n2 c2 n3 c3 fs ls rs _ h1 h2 h3 hn).mono ?_
  rintro e w1 ⟨A, lb, cb, C, lo, co, rfl, hb1, hlb, hlo⟩
  obtain ⟨r, hr⟩ : ∃ r, r = forestS n fs ls rs := ⟨_, rfl⟩
  rw [← hr] at hlb hlo ⊢
  obtain ⟨er, br, out⟩ := r
  have hr := Lib.hid hr
  have k1 := h1.below hb1 (Nat.le_refl _)
  have k2 := h2.below hb1 (Nat.le_refl _)
  have k3 := h3.below hb1 (Nat.le_refl _)
  go_wp2_with fail
  refine (ref11_Forest n A1 A2 A3 n1 c1 n2 c2 n3 c3 fs ls rs _ k1 k2 k3 hn).mono ?_
  rintro e w2 ⟨A', lb', cb', C', lo', co', rfl, hb2, hlb', hlo'⟩
  rw [← hr.out] at hlb' hlo' ⊢
  have hlb := hlb.below hb2 (Nat.le_refl _)
  have hlo := hlo.below hb2 (Nat.le_refl _)
  have hb2 := hb1.trans (hb2.mono hb1.size)
  clear hb1 k1 k2 k3
  go_wp2_with fail
  refine (law11_sameInts A A' lb lb' cb cb' br _ hlb hlb').mono ?_
  rintro e w3 ⟨rfl, hb3⟩
  have hlo := hlo.below hb3 (Nat.le_refl _)
  have hlo' := hlo'.below hb3 (Nat.le_refl _)
  have hb3 := hb2.trans (hb3.mono hb2.size)
  clear hb2 hlb hlb'
  go_wp2_with fail
  refine (law11_sameInts C C' lo lo' co co' out _ hlo hlo').mono ?_
  rintro e w4 ⟨rfl, hb4⟩
  have hb4 := hb3.trans (hb4.mono hb3.size)
  clear hb3 hlo hlo'
  go_wp2_with fail
  refine (law11_known _).mono ?_
  rintro e w5 ⟨rfl, hb5⟩
  have hb5 := hb4.trans (hb5.mono hb4.size)
  go_wp2_with fail
  go_ret
  exact ⟨rfl, hb5⟩

end Go.Proofs.Ytgoojlnfobjplaa
