/- Which numbers of package api are numbers. -/
import Derived.Test.YtgoojlnfobjplaaZn4
namespace Go.Proofs.Ytgoojlnfobjplaa
open Go.RowKit
set_option linter.unusedSimpArgs false
set_option linter.unusedVariables false
attribute [local go_sem] qn30 qe30

/-- numerator and denominator as they must be -/
def VR (N D : Int) : Prop := 1 ≤ D ∧ D ≤ 1000000000000 ∧ -1000000000000 ≤ N ∧ N ≤ 1000000000000 ∧ Int.gcd N D = 1
instance (N D : Int) : Decidable (VR N D) := by unfold VR; infer_instance

theorem In64_small {a : Int} (h1 : -1000000000000 ≤ a) (h2 : a ≤ 1000000000000) : In64 a ∧ a ≠ -9223372036854775808 := by unfold In64; omega

theorem rem_facts (a b : Int) (hb : b ≠ 0) (h : b.natAbs ≤ 9223372036854775807) : Int.gcd b (a.tmod b) = Int.gcd a b ∧ (a.tmod b).natAbs < b.natAbs ∧ a.tmod b ≠ -9223372036854775808 := by
  have h1 : (a.tmod b).natAbs < b.natAbs := by rw [Int.natAbs_tmod]; exact Nat.mod_lt _ (by omega)
  refine ⟨?_, h1, by omega⟩
  rw [Int.gcd_eq_natAbs_gcd_natAbs, Int.natAbs_tmod, Int.gcd_eq_natAbs_gcd_natAbs, Nat.gcd_comm, ← Nat.gcd_rec, Nat.gcd_comm]

set_option maxRecDepth 100000 in
set_option maxHeartbeats 4000000 in
theorem num_Valid (N D : Int) (w : World) :
    Calls Try.prog 42 #[.agg #[.int .i64 N, .int .i64 D]] w fun e w' => e = .returned (.bool (decide (VR N D))) ∧ Below w.heap.size w w' := by
  have hu := Try.underlying24
  rcases Int.lt_or_le D 1 with hD1 | hD1
  · have hV : Hid (decide (VR N D) = false) := decide_eq_false (fun h => by unfold VR at h; omega)
    go_enter Try.func42, Try.ntmps42
    go_wp2_with fail
    go_ret
    exact ⟨by rw [hV.out]; rfl, (Below.refl _ _).alloc (Nat.le_refl _) _⟩
  · rcases Int.lt_or_le 1000000000000 D with hD2 | hD2
    · have hV : Hid (decide (VR N D) = false) := decide_eq_false (fun h => by unfold VR at h; omega)
      go_enter Try.func42, Try.ntmps42
      go_wp2_with fail
      go_ret
      exact ⟨by rw [hV.out]; rfl, (Below.refl _ _).alloc (Nat.le_refl _) _⟩
    · rcases Int.lt_or_le 1000000000000 N with hN2 | hN2
      · have hV : Hid (decide (VR N D) = false) := decide_eq_false (fun h => by unfold VR at h; omega)
        go_enter Try.func42, Try.ntmps42
        go_wp2_with fail
        go_ret
        exact ⟨by rw [hV.out]; rfl, (Below.refl _ _).alloc (Nat.le_refl _) _⟩
      · rcases Int.lt_or_le N (-1000000000000) with hN1 | hN1
        · have hV : Hid (decide (VR N D) = false) := decide_eq_false (fun h => by unfold VR at h; omega)
          go_enter Try.func42, Try.ntmps42
          go_wp2_with fail
          go_ret
          exact ⟨by rw [hV.out]; rfl, (Below.refl _ _).alloc (Nat.le_refl _) _⟩
        · have hN := In64_small hN1 hN2
          have hD := In64_small (show -1000000000000 ≤ D by omega) hD2
          have hN := Lib.hid hN
          have hD := Lib.hid hD
          have hO0 := Lib.hid (Own.one w 24 #[.int .i64 N, .int .i64 D])
          have hV := Lib.hid (show (decide (VR N D)) = decide (Int.gcd N D = 1) by simp [VR, hD1, hD2, hN1, hN2])
          go_enter Try.func42, Try.ntmps42
          go_wp2_with fail
          go_quiet (fail)
          go_wp2_with fail
          clear hD1 hD2 hN1 hN2
          have hO1 := Lib.hid (hO0.out.drewN nq)
          clear hO0
          go_loopw [3, 4] (fun v3 v4 wr => ∃ a b : Int, v3 = .int .i64 a ∧ v4 = .int .i64 b ∧ Hid (In64 a ∧ In64 b) ∧ Hid (Int.gcd a b = Int.gcd N D) ∧ Hid (a ≠ -9223372036854775808) ∧ Hid (b ≠ -9223372036854775808) ∧ Hid (Below w.heap.size w wr)) (fun _ v _ => (intOf v).natAbs)
          case atStart => exact ⟨N, D, rfl, rfl, ⟨hN.out.1, hD.out.1⟩, rfl, hN.out.2, hD.out.2, hO1.out.1⟩
          case round =>
            clear hN hD hO1
            obtain ⟨a, b, rfl, rfl, hi, hg, hna, hnb, hB⟩ := hrel
            by_cases hb : b = 0
            · subst hb
              have hga := Lib.hid (show a.natAbs = Int.gcd N D by have := hg.out; simpa using this)
              by_cases h1 : a = 1
              · subst h1
                have hV2 := Lib.hid (show decide (VR N D) = true by rw [hV.out, ← hga.out]; rfl)
                go_wp2_with fail
                go_ret
                exact ⟨by rw [hV2.out]; rfl, hB.out⟩
              · have d1 : (a == 1) = false := by simpa using h1
                by_cases h2 : a = -1
                · subst h2
                  have hV2 := Lib.hid (show decide (VR N D) = true by rw [hV.out, ← hga.out]; rfl)
                  go_wp2_with fail
                  go_ret
                  exact ⟨by rw [hV2.out]; rfl, hB.out⟩
                · have d2 : (a == -1) = false := by simpa using h2
                  have hV2 := Lib.hid (show decide (VR N D) = false by rw [hV.out, ← hga.out]; simp; omega)
                  clear h1 h2
                  go_wp2_with fail
                  go_ret
                  exact ⟨by rw [hV2.out]; rfl, hB.out⟩
            · have d1 : (b == 0) = false := by simpa using hb
              have d2 : (b != 0) = true := by simpa using hb
              obtain ⟨i1, i2⟩ := tdiv_in (m := b) hi.out.1 hna.out
              have hw2 : IntKind.i64.wrap (a.tmod b) = a.tmod b := by rw [IntKind.wrap_i64]; unfold In64 at i2; omega
              have i2 := Lib.hid i2
              have hr := Lib.hid (rem_facts a b hb (by have := hi.out.2; have := hnb.out; unfold In64 at *; omega))
              clear i1
              go_wp2_with fail
              go_quiet (fail)
              go_wp2_with fail
              go_roundw
              case rel => exact ⟨b, a.tmod b, rfl, rfl, ⟨hi.out.2, i2.out⟩, hr.out.1.trans hg.out, hnb, hr.out.2.2, Lib.hid (bdN hB.out _)⟩
              case measure => exact hr.out.2.1

end Go.Proofs.Ytgoojlnfobjplaa
