/- Names: the reference's isWord and IsSimple. -/
import Derived.Test.YtgjmbmlmopomgaaCb
namespace Go.Proofs.Ytgjmbmlmopomgaa
open Go.RowKit
set_option linter.unusedSimpArgs false
set_option linter.unusedVariables false

def wordV : List Value := words.map fun l => .string ⟨l.toArray⟩
theorem wordV_len : wordV.length = 43 := rfl
theorem wordV_get (k : Nat) (hk : k < 43) : wordV[k]? = some (.string ⟨(words.getD k []).toArray⟩) := by
  unfold wordV
  have : k < words.length := hk
  rw [List.getElem?_map, List.getElem?_eq_getElem this, List.getD_eq_getElem?_getD, List.getElem?_eq_getElem this]
  rfl
theorem resv_of (s : ByteArray) (k : Nat) (hk : k < 43) (h : (s.toList == words.getD k []) = true) : resv s = true := by
  unfold resv
  have : k < words.length := hk
  rw [List.getD_eq_getElem?_getD, List.getElem?_eq_getElem this] at h
  rw [List.contains_iff_exists_mem_beq]
  exact ⟨words[k], List.getElem_mem this, h⟩
theorem resv_not (s : ByteArray) (h : ∀ k, k < 43 → (s.toList == words.getD k []) = false) : resv s = false := by
  unfold resv
  rw [Bool.eq_false_iff]
  intro hc
  rw [List.contains_iff_exists_mem_beq] at hc
  obtain ⟨l, hl, hb⟩ := hc
  obtain ⟨k, hk, rfl⟩ := List.mem_iff_getElem.1 hl
  have := h k hk
  rw [List.getD_eq_getElem?_getD, List.getElem?_eq_getElem hk] at this
  simp at this hb
  exact this hb

def wordB (k : Nat) : ByteArray := ⟨(words.getD k []).toArray⟩
theorem wordB_list (k : Nat) : (wordB k).toList = words.getD k [] := by
  rw [ByteArray.toList_eq]
  rfl
set_option maxRecDepth 100000 in
set_option maxHeartbeats 4000000 in
theorem r_word (s : ByteArray) (w : World) : Calls Try.prog 66 #[.string s] w fun e w' => e = .returned (.bool (resv s)) ∧ Below w.heap.size w w' := by
  go_enter Try.func66, Try.ntmps66
  go_wp2_with fail
  generalize hw1 : w.alloc _ = w1
  have hB : Blk w1 w.heap.size 9 wordV.toArray := by rw [← hw1]; exact Blk.new w 9 wordV.toArray
  have hbel : Below w.heap.size w w1 := by rw [← hw1]; exact (Below.refl _ _).alloc (Nat.le_refl _) _
  clear hw1
  have hcell : ∀ k : Nat, k < 43 → w1.cell? ⟨w.heap.size, k, none⟩ = some (.string (wordB k)) := fun k hk => by
    rw [hB.cell, List.getElem?_toArray, wordV_get k hk]; rfl
  clear hB
  go_loop [4] (fun i => ∃ k : Nat, k ≤ 43 ∧ i = .int .i64 k ∧ Hid (∀ j, j < k → (s.toList == words.getD j []) = false)) (fun i => 43 - (intOf i).toNat)
  case atStart => exact ⟨0, by omega, rfl, fun j hj => absurd hj (Nat.not_lt_zero _)⟩
  case round =>
    obtain ⟨k, hk, rfl, hO⟩ := hrel
    by_cases hlt : k < 43
    · have hc := hcell k hlt
      have hw : Hid ((wordB k).toList = words.getD k []) := wordB_list k
      cases hE : ((wordB k).toList == s.toList) with
      | true =>
        have hv : Hid (resv s = true) := resv_of s k hlt (by rw [← hw.out, beq_iff_eq]; exact (beq_iff_eq.1 hE).symm)
        go_wp2_with fail
        go_ret
        exact ⟨by rw [hv.out]; rfl, hbel⟩
      | false =>
        go_wp2_with fail
        go_round
        case rel => exact ⟨k + 1, by omega, by go_num, fun j hj => by
                      by_cases hjk : j = k
                      · rw [hjk, ← hw.out, Bool.eq_false_iff]
                        intro h
                        rw [beq_iff_eq] at h
                        rw [Bool.eq_false_iff] at hE
                        exact hE (by rw [beq_iff_eq]; exact h.symm)
                      · exact hO.out j (by omega)⟩
        case measure => simp [intOf]; omega
    · have hv : Hid (resv s = false) := resv_not s (fun j hj => hO.out j (by omega))
      have hlt2 : decide ((k : Int) < 43) = false := by simp; omega
      go_wp2_with fail
      go_ret
      exact ⟨by rw [hv.out]; rfl, hbel⟩

end Go.Proofs.Ytgjmbmlmopomgaa
