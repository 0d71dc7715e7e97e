/- in: whether a number is in a list. -/
import Derived.Test.YtjbhnfejpgjghaaMk
namespace Go.Proofs.Ytjbhnfejpgjghaa
open Go.RowKit
set_option linter.unusedSimpArgs false
set_option linter.unusedVariables false

set_option maxRecDepth 100000 in
theorem law13_in (A : Option Addr) (n c : Nat) (l : List Int) (x : Int) (w : World) (hA : IL w A n c l) :
    Calls Try.prog 23 #[.slice A n c, .int .i64 x] w fun e w' => e = .returned (.bool (l.contains x)) ∧ w = w' := by
  have hn : n ≤ 1000000 := hA.2.1
  have hln := Lib.hid hA.1
  obtain ⟨r, hr⟩ : ∃ r, r = l.contains x := ⟨_, rfl⟩
  rw [← hr]
  have hr' := Lib.hid hr
  clear hr
  go_enter Try.func23, Try.ntmps23
  go_wp2_with fail
  go_loopw [9] (fun v9 wr => Hid (w = wr) ∧ ∃ j : Nat, j ≤ n ∧ v9 = .int .i64 j ∧ Hid ((l.take j).contains x = false)) (fun j _ => n - (intOf j).toNat)
  case atStart => exact ⟨rfl, 0, by omega, rfl, by show _ = _; simp⟩
  case round =>
    obtain ⟨hw, j, hj, rfl, hnot⟩ := hrel
    have hw' := hw.out
    subst hw'
    by_cases hlt : j < n
    · obtain ⟨g1, o1, y, rfl, hg1, hy, hc1⟩ := hA.cell hlt
      by_cases hyx : y = x
      · subst hyx
        have hyy : (y == y) = true := by simp
        have hr2 : Hid (r = true) := by
          show _ = _
          rw [hr'.out, List.contains_iff_mem]
          exact List.mem_of_getElem? hy
        go_wp2_with fail
        go_ret
        rw [hr2.out]
        exact ⟨rfl, rfl⟩
      · have hyy : (y == x) = false := by simpa using hyx
        have hnot2 : Hid ((l.take (j + 1)).contains x = false) := by
          show _ = _
          rw [List.take_add_one, hy]
          have h := hnot.out
          simp at h ⊢
          exact ⟨h, fun e => hyx e.symm⟩
        go_wp2_with fail
        exact ⟨⟨Lib.hid trivial, j + 1, by omega, by go_num, hnot2⟩, by simp [intOf]; omega⟩
    · have hjn : j = n := by omega
      have hr2 : Hid (r = false) := by
        show _ = _
        have h := hnot.out
        rw [List.take_of_length_le (by rw [hln.out]; omega)] at h
        rw [hr'.out, h]
      go_wp2_with fail
      go_ret
      rw [hr2.out]
      exact ⟨rfl, rfl⟩

end Go.Proofs.Ytjbhnfejpgjghaa
