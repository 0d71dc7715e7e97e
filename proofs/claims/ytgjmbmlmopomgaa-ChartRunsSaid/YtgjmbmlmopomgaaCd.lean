/- Names: the reference's IsSimple. -/
import Derived.Test.YtgjmbmlmopomgaaCc
namespace Go.Proofs.Ytgjmbmlmopomgaa
open Go.RowKit
set_option linter.unusedSimpArgs false
set_option linter.unusedVariables false

/-- the reference's test of the byte c at place k: is it refused -/
def refu (n : Int) (k : Nat) : Bool := !isL n && ((k == 0) || (!(n == 95) && (decide (n < 48) || decide (57 < n))))
theorem refu_okc (n : Int) (k : Nat) (hk : k ≠ 0) : refu n k = !okc n := by
  unfold refu okc isD
  have : (k == 0) = false := by simpa using hk
  rw [this]
  by_cases h1 : n < 48
  · have : ¬ 48 ≤ n := by omega
    cases isL n <;> cases n == 95 <;> simp [h1, this]
  · have h2 : 48 ≤ n := by omega
    by_cases h3 : 57 < n
    · have : ¬ n ≤ 57 := by omega
      cases isL n <;> cases n == 95 <;> simp [h1, h2, h3, this]
    · have : n ≤ 57 := by omega
      cases isL n <;> cases n == 95 <;> simp [h1, h2, h3, this]
theorem refu_zero (n : Int) : refu n 0 = !isL n := by unfold refu; simp

set_option maxRecDepth 100000 in
set_option maxHeartbeats 4000000 in
theorem r_simple (s : ByteArray) (w : World) (hs : s.size ≤ maxLen) : Calls Try.prog 58 #[.string s] w fun e w' => e = .returned (.bool (simple s)) ∧ Below w.heap.size w w' := by
  unfold maxLen at hs
  have hB0 := Below.refl w.heap.size w
  by_cases h1 : 1 ≤ s.size
  rotate_left
  · rw [simple_no1 s h1]
    have h1b : decide ((s.size : Int) < 1) = true := by simp; omega
    go_enter Try.func58, Try.ntmps58
    go_wp2
    go_ret
    exact ⟨rfl, hB0⟩
  have h1b : decide ((s.size : Int) < 1) = false := by simp; omega
  have hchr := chr_eq s
  by_cases h2 : s.size ≤ 16
  rotate_left
  · rw [simple_no2 s h2]
    have h2b : decide (16 < (s.size : Int)) = true := by simp; omega
    go_enter Try.func58, Try.ntmps58
    go_wp2
    go_ret
    exact ⟨rfl, hB0⟩
  have h2b : decide (16 < (s.size : Int)) = false := by simp; omega
  have hmr := r_word s w
  cases hr : resv s with
  | true =>
    rw [simple_no4 s hr]
    rw [hr] at hmr
    go_enter Try.func58, Try.ntmps58
    go_wp2_with (go_at_call 66; refine hmr.mono ?_; rintro e w' ⟨rfl, hbel⟩)
    go_ret
    exact ⟨rfl, hbel⟩
  | false =>
    rw [hr] at hmr
    have hno : Hid (∀ k, k < s.size → refu (chr s k) k = true → simple s = false) := fun k hk h => by
      by_cases hk0 : k = 0
      · subst hk0
        rw [refu_zero] at h
        exact simple_no3 s (by simpa using h)
      · rw [refu_okc _ _ hk0] at h
        exact simple_no5 s k hk (by simpa using h)
    have hyes : Hid ((∀ k, k < s.size → refu (chr s k) k = false) → simple s = true) := fun h => by
      have hl : isL (chr s 0) = true := by have := h 0 (by omega); rw [refu_zero] at this; simpa using this
      refine simple_yes s h1 h2 hl hr fun k hk => ?_
      by_cases hk0 : k = 0
      · subst hk0; unfold okc; rw [hl]; rfl
      · have := h k hk; rw [refu_okc _ _ hk0] at this; simpa using this
    go_enter Try.func58, Try.ntmps58
    go_wp2_with (go_at_call 66; refine hmr.mono ?_; rintro e w' ⟨rfl, hbel⟩)
    clear hmr hr
    go_loop [3] (fun i => ∃ k : Nat, k ≤ s.size ∧ i = .int .i64 k ∧ Hid (∀ j, j < k → refu (chr s j) j = false)) (fun i => s.size - (intOf i).toNat)
    case atStart => exact ⟨0, Nat.zero_le _, rfl, fun j hj => absurd hj (Nat.not_lt_zero _)⟩
    case round =>
      obtain ⟨k, hk, rfl, hO⟩ := hrel
      by_cases hlt : k < s.size
      · have hck := hchr k hlt
        cases a1 : decide (97 ≤ chr s k) with
        | true =>
          cases a2 : decide (chr s k ≤ 122) with
          | true =>
            have hR : Hid (refu (chr s k) k = false) := by show _ = _; unfold refu isL; simp [a1, a2]
            have hO2 : Hid (∀ j, j < k + 1 → refu (chr s j) j = false) := fun j hj => by
              by_cases hjk : j = k
              · rw [hjk]; exact hR.out
              · exact hO.out j (by omega)
            clear hO hno hyes hR
            go_wp2_with fail
            go_round
            case rel => exact ⟨k + 1, by omega, by go_num, hO2⟩
            case measure => simp [intOf]; omega
          | false =>
            have a3 : decide (65 ≤ chr s k) = true := by simp at a1 ⊢; omega
            have a4 : decide (chr s k ≤ 90) = false := by simp at a1 ⊢; omega
            cases hk0 : ((k : Int) == 0) with
            | true =>
              have hk1 : k = 0 := by simpa using hk0
              have hv : Hid (simple s = false) := hno.out k hlt (by rw [hk1]; rw [hk1] at a1 a2 a3 a4; unfold refu isL; simp [a1, a2, a3, a4])
              clear hO hno hyes hk1
              go_wp2_with fail
              go_ret
              exact ⟨by rw [hv.out]; rfl, hbel⟩
            | false =>
              have hk1 : (k == 0) = false := by have : ¬ (k : Int) = 0 := by simpa using hk0
                                                simp; omega
              cases b1 : (chr s k == 95) with
              | true =>
                have b1n : (chr s k != 95) = false := by simp only [bne, b1]; rfl
                have hR : Hid (refu (chr s k) k = false) := by show _ = _; unfold refu isL; simp [a1, a2, a3, a4, hk1, b1]
                have hO2 : Hid (∀ j, j < k + 1 → refu (chr s j) j = false) := fun j hj => by
                  by_cases hjk : j = k
                  · rw [hjk]; exact hR.out
                  · exact hO.out j (by omega)
                clear hO hno hyes hR
                go_wp2_with fail
                go_round
                case rel => exact ⟨k + 1, by omega, by go_num, hO2⟩
                case measure => simp [intOf]; omega
              | false =>
                have b1n : (chr s k != 95) = true := by simp only [bne, b1]; rfl
                cases b2 : decide (chr s k < 48) with
                | true =>
                  have hv : Hid (simple s = false) := hno.out k hlt (by unfold refu isL; simp [a1, a2, a3, a4, hk1, b1, b2])
                  clear hO hno hyes
                  go_wp2_with fail
                  go_ret
                  exact ⟨by rw [hv.out]; rfl, hbel⟩
                | false =>
                  cases b3 : decide (57 < chr s k) with
                  | true =>
                    have hv : Hid (simple s = false) := hno.out k hlt (by unfold refu isL; simp [a1, a2, a3, a4, hk1, b1, b2, b3])
                    clear hO hno hyes
                    go_wp2_with fail
                    go_ret
                    exact ⟨by rw [hv.out]; rfl, hbel⟩
                  | false =>
                    have hR : Hid (refu (chr s k) k = false) := by show _ = _; unfold refu isL; simp [a1, a2, a3, a4, hk1, b1, b2, b3]
                    have hO2 : Hid (∀ j, j < k + 1 → refu (chr s j) j = false) := fun j hj => by
                      by_cases hjk : j = k
                      · rw [hjk]; exact hR.out
                      · exact hO.out j (by omega)
                    clear hO hno hyes hR
                    go_wp2_with fail
                    go_round
                    case rel => exact ⟨k + 1, by omega, by go_num, hO2⟩
                    case measure => simp [intOf]; omega
        | false =>
          cases a3 : decide (65 ≤ chr s k) with
          | true =>
            cases a4 : decide (chr s k ≤ 90) with
            | true =>
              have hR : Hid (refu (chr s k) k = false) := by show _ = _; unfold refu isL; simp [a1, a3, a4]
              have hO2 : Hid (∀ j, j < k + 1 → refu (chr s j) j = false) := fun j hj => by
                by_cases hjk : j = k
                · rw [hjk]; exact hR.out
                · exact hO.out j (by omega)
              clear hO hno hyes hR
              go_wp2_with fail
              go_round
              case rel => exact ⟨k + 1, by omega, by go_num, hO2⟩
              case measure => simp [intOf]; omega
            | false =>
              cases hk0 : ((k : Int) == 0) with
              | true =>
                have hk1 : k = 0 := by simpa using hk0
                have hv : Hid (simple s = false) := hno.out k hlt (by rw [hk1]; rw [hk1] at a1 a3 a4; unfold refu isL; simp [a1, a3, a4])
                clear hO hno hyes hk1
                go_wp2_with fail
                go_ret
                exact ⟨by rw [hv.out]; rfl, hbel⟩
              | false =>
                have hk1 : (k == 0) = false := by have : ¬ (k : Int) = 0 := by simpa using hk0
                                                  simp; omega
                cases b1 : (chr s k == 95) with
                | true =>
                  have b1n : (chr s k != 95) = false := by simp only [bne, b1]; rfl
                  have hR : Hid (refu (chr s k) k = false) := by show _ = _; unfold refu isL; simp [a1, a3, a4, hk1, b1]
                  have hO2 : Hid (∀ j, j < k + 1 → refu (chr s j) j = false) := fun j hj => by
                    by_cases hjk : j = k
                    · rw [hjk]; exact hR.out
                    · exact hO.out j (by omega)
                  clear hO hno hyes hR
                  go_wp2_with fail
                  go_round
                  case rel => exact ⟨k + 1, by omega, by go_num, hO2⟩
                  case measure => simp [intOf]; omega
                | false =>
                  have b1n : (chr s k != 95) = true := by simp only [bne, b1]; rfl
                  cases b2 : decide (chr s k < 48) with
                  | true =>
                    have hv : Hid (simple s = false) := hno.out k hlt (by unfold refu isL; simp [a1, a3, a4, hk1, b1, b2])
                    clear hO hno hyes
                    go_wp2_with fail
                    go_ret
                    exact ⟨by rw [hv.out]; rfl, hbel⟩
                  | false =>
                    cases b3 : decide (57 < chr s k) with
                    | true =>
                      have hv : Hid (simple s = false) := hno.out k hlt (by unfold refu isL; simp [a1, a3, a4, hk1, b1, b2, b3])
                      clear hO hno hyes
                      go_wp2_with fail
                      go_ret
                      exact ⟨by rw [hv.out]; rfl, hbel⟩
                    | false =>
                      have hR : Hid (refu (chr s k) k = false) := by show _ = _; unfold refu isL; simp [a1, a3, a4, hk1, b1, b2, b3]
                      have hO2 : Hid (∀ j, j < k + 1 → refu (chr s j) j = false) := fun j hj => by
                        by_cases hjk : j = k
                        · rw [hjk]; exact hR.out
                        · exact hO.out j (by omega)
                      clear hO hno hyes hR
                      go_wp2_with fail
                      go_round
                      case rel => exact ⟨k + 1, by omega, by go_num, hO2⟩
                      case measure => simp [intOf]; omega
          | false =>
            cases hk0 : ((k : Int) == 0) with
            | true =>
              have hk1 : k = 0 := by simpa using hk0
              have hv : Hid (simple s = false) := hno.out k hlt (by rw [hk1]; rw [hk1] at a1 a3; unfold refu isL; simp [a1, a3])
              clear hO hno hyes hk1
              go_wp2_with fail
              go_ret
              exact ⟨by rw [hv.out]; rfl, hbel⟩
            | false =>
              have hk1 : (k == 0) = false := by have : ¬ (k : Int) = 0 := by simpa using hk0
                                                simp; omega
              cases b1 : (chr s k == 95) with
              | true =>
                have b1n : (chr s k != 95) = false := by simp only [bne, b1]; rfl
                have hR : Hid (refu (chr s k) k = false) := by show _ = _; unfold refu isL; simp [a1, a3, hk1, b1]
                have hO2 : Hid (∀ j, j < k + 1 → refu (chr s j) j = false) := fun j hj => by
                  by_cases hjk : j = k
                  · rw [hjk]; exact hR.out
                  · exact hO.out j (by omega)
                clear hO hno hyes hR
                go_wp2_with fail
                go_round
                case rel => exact ⟨k + 1, by omega, by go_num, hO2⟩
                case measure => simp [intOf]; omega
              | false =>
                have b1n : (chr s k != 95) = true := by simp only [bne, b1]; rfl
                cases b2 : decide (chr s k < 48) with
                | true =>
                  have hv : Hid (simple s = false) := hno.out k hlt (by unfold refu isL; simp [a1, a3, hk1, b1, b2])
                  clear hO hno hyes
                  go_wp2_with fail
                  go_ret
                  exact ⟨by rw [hv.out]; rfl, hbel⟩
                | false =>
                  cases b3 : decide (57 < chr s k) with
                  | true =>
                    have hv : Hid (simple s = false) := hno.out k hlt (by unfold refu isL; simp [a1, a3, hk1, b1, b2, b3])
                    clear hO hno hyes
                    go_wp2_with fail
                    go_ret
                    exact ⟨by rw [hv.out]; rfl, hbel⟩
                  | false =>
                    have hR : Hid (refu (chr s k) k = false) := by show _ = _; unfold refu isL; simp [a1, a3, hk1, b1, b2, b3]
                    have hO2 : Hid (∀ j, j < k + 1 → refu (chr s j) j = false) := fun j hj => by
                      by_cases hjk : j = k
                      · rw [hjk]; exact hR.out
                      · exact hO.out j (by omega)
                    clear hO hno hyes hR
                    go_wp2_with fail
                    go_round
                    case rel => exact ⟨k + 1, by omega, by go_num, hO2⟩
                    case measure => simp [intOf]; omega
      · have hv : Hid (simple s = true) := hyes.out (fun j hj => hO.out j (by omega))
        go_wp2_with fail
        go_ret
        exact ⟨by rw [hv.out]; rfl, hbel⟩

end Go.Proofs.Ytgjmbmlmopomgaa
