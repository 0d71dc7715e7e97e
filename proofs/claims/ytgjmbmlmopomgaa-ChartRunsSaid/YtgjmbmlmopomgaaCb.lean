/- Names: letters, digits, the program's IsSimple, the reference's. -/
import Derived.Test.YtgjmbmlmopomgaaCa
namespace Go.Proofs.Ytgjmbmlmopomgaa
open Go.RowKit
set_option linter.unusedSimpArgs false
set_option linter.unusedVariables false

def isL (n : Int) : Bool := (decide (97 ≤ n) && decide (n ≤ 122)) || (decide (65 ≤ n) && decide (n ≤ 90))
def isD (n : Int) : Bool := decide (48 ≤ n) && decide (n ≤ 57)
def okc (n : Int) : Bool := isL n || isD n || (n == 95)
def chr (s : ByteArray) (i : Nat) : Int := ((s.data.toList.getD i 0).toNat : Int)
theorem chr_eq (s : ByteArray) (i : Nat) (h : i < s.size) : (s[i].toNat : Int) = chr s i := by
  unfold chr
  rw [List.getD_eq_getElem?_getD, List.getElem?_eq_getElem (by simpa using h)]
  rfl
def simple (s : ByteArray) : Bool := decide (1 ≤ s.size) && decide (s.size ≤ 16) && !resv s && isL (chr s 0) && (List.range s.size).all (fun i => okc (chr s i))

set_option maxRecDepth 100000 in
theorem m_letter (n : Int) (w : World) : Calls Try.prog 60 #[.int .u8 n] w fun e w' => e = .returned (.bool (isL n)) ∧ w' = w := by
  have hr : Hid (isL n = ((decide (97 ≤ n) && decide (n ≤ 122)) || (decide (65 ≤ n) && decide (n ≤ 90)))) := rfl
  go_enter Try.func60, Try.ntmps60
  cases h1 : decide (97 ≤ n) <;> cases h2 : decide (n ≤ 122) <;> cases h3 : decide (65 ≤ n) <;> cases h4 : decide (n ≤ 90)
  all_goals
    go_wp2
    go_ret
    exact ⟨by rw [hr.out, h1, h2, h3, h4]; rfl, rfl⟩

set_option maxRecDepth 100000 in
theorem m_digit (n : Int) (w : World) : Calls Try.prog 62 #[.int .u8 n] w fun e w' => e = .returned (.bool (isD n)) ∧ w' = w := by
  have hr : Hid (isD n = (decide (48 ≤ n) && decide (n ≤ 57))) := rfl
  go_enter Try.func62, Try.ntmps62
  cases h1 : decide (48 ≤ n) <;> cases h2 : decide (n ≤ 57)
  all_goals
    go_wp2
    go_ret
    exact ⟨by rw [hr.out, h1, h2]; rfl, rfl⟩

theorem simple_no1 (s : ByteArray) (h : ¬ 1 ≤ s.size) : simple s = false := by unfold simple; simp [h]
theorem simple_no2 (s : ByteArray) (h : ¬ s.size ≤ 16) : simple s = false := by unfold simple; simp [h]
theorem simple_no3 (s : ByteArray) (h : isL (chr s 0) = false) : simple s = false := by unfold simple; simp [h]
theorem simple_no4 (s : ByteArray) (h : resv s = true) : simple s = false := by unfold simple; simp [h]
theorem simple_no5 (s : ByteArray) (k : Nat) (hk : k < s.size) (h : okc (chr s k) = false) : simple s = false := by
  unfold simple
  have : ((List.range s.size).all fun i => okc (chr s i)) = false := by
    rw [List.all_eq_false]
    exact ⟨k, List.mem_range.2 hk, by simp [h]⟩
  simp [this]
theorem simple_yes (s : ByteArray) (h1 : 1 ≤ s.size) (h2 : s.size ≤ 16) (h3 : isL (chr s 0) = true) (h4 : resv s = false) (h5 : ∀ k, k < s.size → okc (chr s k) = true) : simple s = true := by
  unfold simple
  have : ((List.range s.size).all fun i => okc (chr s i)) = true := by
    rw [List.all_eq_true]
    intro k hk
    exact h5 k (List.mem_range.1 hk)
  simp [this, h1, h2, h3, h4]

set_option maxRecDepth 100000 in
set_option maxHeartbeats 4000000 in
theorem m_simple (s : ByteArray) (w : World) (hs : s.size ≤ maxLen) : Calls Try.prog 46 #[.string s] w fun e w' => e = .returned (.bool (simple s)) ∧ w' = w := by
  unfold maxLen at hs
  by_cases h1 : 1 ≤ s.size
  rotate_left
  · rw [simple_no1 s h1]
    have h1b : decide ((s.size : Int) < 1) = true := by simp; omega
    go_enter Try.func46, Try.ntmps46
    go_wp2
    go_ret
    exact ⟨rfl, rfl⟩
  have h1b : decide ((s.size : Int) < 1) = false := by simp; omega
  have hchr := chr_eq s
  have hc0 := hchr 0 (by omega)
  by_cases h2 : s.size ≤ 16
  rotate_left
  · rw [simple_no2 s h2]
    have h2b : decide (16 < (s.size : Int)) = true := by simp; omega
    go_enter Try.func46, Try.ntmps46
    go_wp2
    go_ret
    exact ⟨rfl, rfl⟩
  have h2b : decide (16 < (s.size : Int)) = false := by simp; omega
  have hml := m_letter
  cases hl : isL (chr s 0) with
  | false =>
    rw [simple_no3 s hl]
    go_enter Try.func46, Try.ntmps46
    go_wp2_with (go_at_call 60; refine (hml _ _).mono ?_; rintro e w' ⟨rfl, rfl⟩; rw [hl])
    go_ret
    exact ⟨rfl, rfl⟩
  | true =>
    have hmr := m_reserved s w
    cases hr : resv s with
    | true =>
      rw [simple_no4 s hr]
      rw [hr] at hmr
      go_enter Try.func46, Try.ntmps46
      go_wp2_with (first | (go_at_call 60; refine (hml _ _).mono ?_; rintro e w' ⟨rfl, rfl⟩; rw [hl]) | (go_at_call 61; refine hmr.mono ?_; rintro e w' ⟨rfl, rfl⟩))
      go_ret
      exact ⟨rfl, rfl⟩
    | false =>
      rw [hr] at hmr
      have hok : Hid (∀ n, okc n = (isL n || isD n || (n == 95))) := fun _ => rfl
      have hmd := m_digit
      have hno : Hid (∀ k, k < s.size → okc (chr s k) = false → simple s = false) := fun k hk h => simple_no5 s k hk h
      have hyes : Hid ((∀ k, k < s.size → okc (chr s k) = true) → simple s = true) := fun h => simple_yes s h1 h2 hl hr h
      go_enter Try.func46, Try.ntmps46
      go_wp2_with (first | (go_at_call 60; refine (hml _ _).mono ?_; rintro e w' ⟨rfl, rfl⟩; rw [hl]) | (go_at_call 61; refine hmr.mono ?_; rintro e w' ⟨rfl, rfl⟩))
      clear hl hmr hr
      go_loop [24] (fun i => ∃ k : Nat, k ≤ s.size ∧ i = .int .i64 k ∧ Hid (∀ j, j < k → okc (chr s j) = true)) (fun i => s.size - (intOf i).toNat)
      case atStart => exact ⟨0, Nat.zero_le _, rfl, fun j hj => absurd hj (Nat.not_lt_zero _)⟩
      case round =>
        obtain ⟨k, hk, rfl, hO⟩ := hrel
        by_cases hlt : k < s.size
        · have hck := hchr k hlt
          cases hA : isL (chr s k) with
          | true =>
            have hOk : Hid (okc (chr s k) = true) := by show _ = _; rw [hok.out, hA]; rfl
            go_wp2_with (go_at_call 60; refine (hml _ _).mono ?_; rintro e w' ⟨rfl, rfl⟩; rw [hA])
            go_round
            case rel => exact ⟨k + 1, by omega, by go_num, fun j hj => by by_cases hjk : j = k; · rw [hjk]; exact hOk.out
                                                                          · exact hO.out j (by omega)⟩
            case measure => simp [intOf]; omega
          | false =>
            cases hD : isD (chr s k) with
            | true =>
              have hOk : Hid (okc (chr s k) = true) := by show _ = _; rw [hok.out, hA, hD]; rfl
              go_wp2_with (first | (go_at_call 60; refine (hml _ _).mono ?_; rintro e w' ⟨rfl, rfl⟩; rw [hA]) | (go_at_call 62; refine (hmd _ _).mono ?_; rintro e w' ⟨rfl, rfl⟩; rw [hD]))
              go_round
              case rel => exact ⟨k + 1, by omega, by go_num, fun j hj => by by_cases hjk : j = k; · rw [hjk]; exact hOk.out
                                                                            · exact hO.out j (by omega)⟩
              case measure => simp [intOf]; omega
            | false =>
              cases hU : (chr s k == 95) with
              | true =>
                have hOk : Hid (okc (chr s k) = true) := by show _ = _; rw [hok.out, hA, hD, hU]; rfl
                have hU2 : (chr s k != 95) = false := by simp only [bne, hU]; rfl
                go_wp2_with (first | (go_at_call 60; refine (hml _ _).mono ?_; rintro e w' ⟨rfl, rfl⟩; rw [hA]) | (go_at_call 62; refine (hmd _ _).mono ?_; rintro e w' ⟨rfl, rfl⟩; rw [hD]))
                go_round
                case rel => exact ⟨k + 1, by omega, by go_num, fun j hj => by by_cases hjk : j = k; · rw [hjk]; exact hOk.out
                                                                              · exact hO.out j (by omega)⟩
                case measure => simp [intOf]; omega
              | false =>
                have hOk : Hid (simple s = false) := hno.out k hlt (by rw [hok.out, hA, hD, hU]; rfl)
                have hU2 : (chr s k != 95) = true := by simp only [bne, hU]; rfl
                go_wp2_with (first | (go_at_call 60; refine (hml _ _).mono ?_; rintro e w' ⟨rfl, rfl⟩; rw [hA]) | (go_at_call 62; refine (hmd _ _).mono ?_; rintro e w' ⟨rfl, rfl⟩; rw [hD]))
                go_ret
                exact ⟨by rw [hOk.out]; rfl, rfl⟩
        · have hOk : Hid (simple s = true) := hyes.out (fun j hj => hO.out j (by omega))
          go_wp2_with fail
          go_ret
          exact ⟨by rw [hOk.out]; rfl, rfl⟩

end Go.Proofs.Ytgjmbmlmopomgaa
