/- in: whether a number is in a list. -/
import Derived.Test.YtjbhnfejpgjghaaMk
import Derived.Test.YtjbhnfejpgjghaaMm
namespace Go.Proofs.Ytjbhnfejpgjghaa
open Go.RowKit
set_option linter.unusedSimpArgs false
set_option linter.unusedVariables false

set_option maxRecDepth 100000 in
theorem law13_in (A : Option Addr) (n c : Nat) (l : List Int) (x : Int) (w : World) (hA : IL w A n c l) :
    Calls Try.prog 23 #[.slice A n c, .int .i64 x] w fun e w' => e = .returned (.bool (l.contains x)) ∧ w = w' := by
  have hn : n ≤ 1000000 := hA.2.1
  have hln := Lib.hid hA.1
  obtain ⟨r, hr⟩ : ∃ r, r = l.contains x := ⟨_, rfl⟩
  rw [← hr]
  have hr' := Lib.hid hr
  clear hr
  go_enter Try.func23, Try.ntmps23
  go_wp2_with fail
  go_loopw [9] (fun v9 wr => Hid (w = wr) ∧ ∃ j : Nat, j ≤ n ∧ v9 = .int .i64 j ∧ Hid ((l.take j).contains x = false)) (fun j _ => n - (intOf j).toNat)
  case atStart => exact ⟨rfl, 0, by omega, rfl, by show _ = _; simp⟩
  case round =>
    obtain ⟨hw, j, hj, rfl, hnot⟩ := hrel
    have hw' := hw.out
    subst hw'
    by_cases hlt : j < n
    · obtain ⟨g1, o1, y, rfl, hg1, hy, hc1⟩ := hA.cell hlt
      by_cases hyx : y = x
      · subst hyx
        have hyy : (y == y) = true := by simp
        have hr2 : Hid (r = true) := by
          show _ = _
          rw [hr'.out, List.contains_iff_mem]
          exact List.mem_of_getElem? hy
        go_wp2_with fail
        go_ret
        rw [hr2.out]
        exact ⟨rfl, rfl⟩
      · have hyy : (y == x) = false := by simpa using hyx
        have hnot2 : Hid ((l.take (j + 1)).contains x = false) := by
          show _ = _
          rw [List.take_add_one, hy]
          have h := hnot.out
          simp at h ⊢
          exact ⟨h, fun e => hyx e.symm⟩
        go_wp2_with fail
        exact ⟨⟨Lib.hid trivial, j + 1, by omega, by go_num, hnot2⟩, by simp [intOf]; omega⟩
    · have hjn : j = n := by omega
      have hr2 : Hid (r = false) := by
        show _ = _
        have h := hnot.out
        rw [List.take_of_length_le (by rw [hln.out]; omega)] at h
        rw [hr'.out, h]
      go_wp2_with fail
      go_ret
      rw [hr2.out]
      exact ⟨rfl, rfl⟩

end Go.Proofs.Ytjbhnfejpgjghaa

/- The law's example. -/
namespace Go.Proofs.Ytjbhnfejpgjghaa
open Go.RowKit
set_option linter.unusedSimpArgs false
set_option linter.unusedVariables false

theorem l1_of {w : World} {g : Nat} {t : TypeId} {zs : List Int} {n : Nat} (hn : zs.length = n) (hb : ∀ z ∈ zs, In64 z) (hlt : g < w.heap.size) (hc : ∀ (j : Nat) (z : Int), zs[j]? = some z → w.cell? ⟨g, 0 + j, none⟩ = some (.int .i64 z)) (h3 : n ≤ 1000) (c : Nat) : L1 w (some ⟨g, 0, none⟩) n c zs :=
  ⟨hn, by omega, hb, .inr ⟨g, 0, rfl, hlt, hc⟩⟩

theorem known_in (w : World) (W : World) (hO : Own w [(3, #[.int .i64 0, .int .i64 1]), (3, #[.int .i64 0]), (3, #[.int .i64 0]), (23, #[.slice (some ⟨w.heap.size, 0, none⟩) 2 2, .slice (some ⟨w.heap.size + 1, 0, none⟩) 1 1, .slice (some ⟨w.heap.size + 2, 0, none⟩) 1 1])] W) :
    L2 W (some ⟨w.heap.size + 3, 0, none⟩) 3 3 [[0, 1], [0], [0]] := by
  have b0 := hO.b0
  have b1 := hO.b1
  have b2 := hO.b2
  have b3 := hO.b3
  have hz : In64 0 := by unfold In64; omega
  have h1 : In64 1 := by unfold In64; omega
  refine ⟨rfl, by omega, .inr ⟨_, _, rfl, b3.lt, ?_⟩⟩
  intro j zs hj
  have hl := (List.getElem?_eq_some_iff.1 hj).1
  simp at hl
  rcases (show j = 0 ∨ j = 1 ∨ j = 2 by omega) with rfl | rfl | rfl
  · obtain rfl : [(0 : Int), 1] = zs := by simpa using hj
    refine ⟨_, _, _, b3.cell 0, l1_of (t := 3) rfl (by simp; exact ⟨hz, h1⟩) b0.lt ?_ (by simp) _⟩
    intro i z hi
    have hl := (List.getElem?_eq_some_iff.1 hi).1
    simp at hl
    rcases (show i = 0 ∨ i = 1 by omega) with rfl | rfl
    · obtain rfl : (0 : Int) = z := by simpa using hi
      exact b0.cell 0
    · obtain rfl : (1 : Int) = z := by simpa using hi
      exact b0.cell 1
  · obtain rfl : [(0 : Int)] = zs := by simpa using hj
    refine ⟨_, _, _, b3.cell 1, l1_of (t := 3) rfl (by simp; exact hz) b1.lt ?_ (by simp) _⟩
    intro i z hi
    have hl := (List.getElem?_eq_some_iff.1 hi).1
    simp at hl
    subst hl
    obtain rfl : (0 : Int) = z := by simpa using hi
    exact b1.cell 0
  · obtain rfl : [(0 : Int)] = zs := by simpa using hj
    refine ⟨_, _, _, b3.cell 2, l1_of (t := 3) rfl (by simp; exact hz) b2.lt ?_ (by simp) _⟩
    intro i z hi
    have hl := (List.getElem?_eq_some_iff.1 hi).1
    simp at hl
    subst hl
    obtain rfl : (0 : Int) = z := by simpa using hi
    exact b2.cell 0

theorem il3 {w : World} {g : Nat} {t : TypeId} {a b c : Int} (h : Blk w g t #[.int .i64 a, .int .i64 b, .int .i64 c]) : IL w (some ⟨g, 0, none⟩) 3 3 [a, b, c] := by
  refine ⟨rfl, by omega, .inr ⟨g, 0, rfl, h.lt, ?_⟩⟩
  intro j x hj
  have hl := (List.getElem?_eq_some_iff.1 hj).1
  simp at hl
  rcases (show j = 0 ∨ j = 1 ∨ j = 2 by omega) with rfl | rfl | rfl
  · obtain rfl : a = x := by simpa using hj
    exact h.cell 0
  · obtain rfl : b = x := by simpa using hj
    exact h.cell 1
  · obtain rfl : c = x := by simpa using hj
    exact h.cell 2

set_option maxRecDepth 100000 in
set_option maxHeartbeats 1000000 in
theorem law13_known (w : World) :
    Calls Try.prog 14 #[] w fun e w' => e = .returned (.bool true) ∧ Below w.heap.size w w' := by
  have hO : Own w [(3, #[.int .i64 0, .int .i64 1]), (3, #[.int .i64 0]), (3, #[.int .i64 0]), (23, #[.slice (some ⟨w.heap.size, 0, none⟩) 2 2, .slice (some ⟨w.heap.size + 1, 0, none⟩) 1 1, .slice (some ⟨w.heap.size + 1 + 1, 0, none⟩) 1 1])] ((((w.alloc (.cells #[.int .i64 0, .int .i64 1] 3)).alloc (.cells #[.int .i64 0] 3)).alloc (.cells #[.int .i64 0] 3)).alloc (.cells #[.slice (some ⟨w.heap.size, 0, none⟩) 2 2, .slice (some ⟨w.heap.size + 1, 0, none⟩) 1 1, .slice (some ⟨w.heap.size + 1 + 1, 0, none⟩) 1 1] 23)) := (Own.three w _ _ _ _ _ _).alloc (by simp) _ _
  have hM := m_maximum 3 2 (some ⟨w.heap.size + 1 + 1 + 1, 0, none⟩) 3 3 [[0, 1], [0], [0]] _ (known_in w _ hO) (by unfold In64; omega) (by unfold In64; omega)
  have hM' := Lib.hid hM
  have hb0 := Lib.hid hO.1
  clear hM hO
  go_enter Try.func14, Try.ntmps14
  go_wp2_with fail
  refine hM'.out.mono ?_
  clear hM'
  rintro e w2 ⟨A, n, c, zs, er, rfl, hil, hms, hb2⟩
  have hms := hms.out
  rw [max_known] at hms
  injection hms with h1 h2
  subst h1 h2
  have hb3 := Lib.hid (hb0.out.trans (hb2.mono hb0.out.size))
  clear hb2 hb0
  have hbn : Below w2.heap.size w2 (w2.alloc (.cells #[.int .i64 1, .int .i64 0, .int .i64 (-1)] 3)) := (Below.refl _ _).alloc (Nat.le_refl _) _
  have hnew : Blk (w2.alloc (.cells #[.int .i64 1, .int .i64 0, .int .i64 (-1)] 3)) w2.heap.size 3 #[.int .i64 1, .int .i64 0, .int .i64 (-1)] := Blk.new _ _ _
  have hC := Lib.hid (law13_same A (some ⟨w2.heap.size, 0, none⟩) n 3 c 3 [1, 0, -1] _ (hil.below hbn) (il3 hnew))
  have hb4 := Lib.hid (hb3.out.alloc hb3.out.size (.cells #[.int .i64 1, .int .i64 0, .int .i64 (-1)] 3))
  clear hbn hnew hil
  go_wp2_with (go_at_call 11; (with_reducible refine hC.out.mono ?_); rintro e w5 ⟨rfl, hb5⟩)
  go_ret
  exact ⟨rfl, hb4.out.trans (hb5.mono hb4.out.size)⟩

end Go.Proofs.Ytjbhnfejpgjghaa
