/- Sets of at most 64 unknowns, as the program keeps them. -/
import Derived.Test.YtjbhnfejpgjghaaMa
import Derived.Test.YtjbhnfejpgjghaaZr1
namespace Go.Proofs.Ytjbhnfejpgjghaa
open Go.RowKit
set_option linter.unusedSimpArgs false
set_option linter.unusedVariables false

theorem and1 (x : Nat) (hx : x < 18446744073709551616) : bits .and .u64 (x : Int) 1 = ((x % 2 : Nat) : Int) := by
  have h := u64_and_nat x 1 hx (by omega)
  rw [Nat.and_one_is_mod] at h
  exact h

theorem testBit_div (s i : Nat) : s.testBit i = decide (s / 2 ^ i % 2 = 1) := by
  rw [Nat.testBit_eq_decide_div_mod_eq]

set_option maxRecDepth 100000 in
theorem m_has (s0 s1 i : Nat) (w : World) (hi : i < 64) (h0 : s0 < 18446744073709551616) :
    Calls Try.prog 33 #[.agg #[.int .u64 s0, .int .u64 s1], .int .i64 i] w fun e w' => e = .returned (.bool (s0.testBit i)) ∧ Below w.heap.size w w' := by
  have hu := Try.underlying55
  have hq : (i : Int).tdiv 64 = 0 := by rw [Int.tdiv_eq_ediv_of_nonneg (by omega)]; omega
  have hr : (i : Int).tmod 64 = (i : Int) := by rw [Int.tmod_eq_emod_of_nonneg (by omega)]; omega
  have hB := Lib.hid (Own.one w 55 #[.int .u64 s0, .int .u64 s1])
  have hc0 := hB.out.b0.cell 0
  simp at hc0
  obtain ⟨X, hX⟩ : ∃ X, X = s0 / 2 ^ i := ⟨_, rfl⟩
  have hXb : X < 18446744073709551616 := by rw [hX]; exact Nat.lt_of_le_of_lt (Nat.div_le_self _ _) h0
  have hdv : (s0 : Int) / (2 : Int) ^ i = (X : Int) := by rw [hX, Int.natCast_ediv]; norm_cast
  have hand := and1 X hXb
  have hres : Hid (((((X % 2 : Nat) : Int)) == 1) = s0.testBit i) := by
    show _ = _
    rw [testBit_div, ← hX, Bool.eq_iff_iff]
    simp
    omega
  clear hX
  go_enter Try.func33, Try.ntmps33
  go_wp2_with fail
  go_ret
  exact ⟨by rw [← hres.out]; rfl, hB.out.1⟩

theorem or_bit {s i : Nat} (h0 : s < 18446744073709551616) (hi : i < 64) : s ||| 2 ^ i < 18446744073709551616 := Nat.or_lt_two_pow (n := 64) h0 (Nat.pow_lt_pow_right (by omega) hi)

set_option maxRecDepth 100000 in
set_option maxHeartbeats 1000000 in
theorem m_with (s0 s1 i : Nat) (w : World) (hi : i < 64) (h0 : s0 < 18446744073709551616) :
    Calls Try.prog 34 #[.agg #[.int .u64 s0, .int .u64 s1], .int .i64 i] w fun e w' => e = .returned (.agg #[.int .u64 ((s0 ||| 2 ^ i : Nat) : Int), .int .u64 s1]) ∧ Below w.heap.size w w' := by
  have hu := Try.underlying55
  have hq : (i : Int).tdiv 64 = 0 := by rw [Int.tdiv_eq_ediv_of_nonneg (by omega)]; omega
  have hr : (i : Int).tmod 64 = (i : Int) := by rw [Int.tmod_eq_emod_of_nonneg (by omega)]; omega
  have hO := Lib.hid (Own.two w 55 55 #[.int .u64 s0, .int .u64 s1] #[.int .u64 0, .int .u64 0])
  have hp : 2 ^ i < 18446744073709551616 := Nat.pow_lt_pow_right (n := 64) (by omega) hi
  have hpi : (2 : Int) ^ i = ((2 ^ i : Nat) : Int) := by norm_cast
  have hor := u64_or_nat s0 (2 ^ i) h0 hp
  have hob := or_bit h0 hi
  have hw0 : IntKind.i64.wrap 0 = 0 := by rw [IntKind.wrap_i64]; omega
  obtain ⟨p, hp'⟩ : ∃ p, p = 2 ^ i := ⟨_, rfl⟩
  rw [← hp'] at hp hpi hor hob ⊢
  obtain ⟨r, hr'⟩ : ∃ r, r = s0 ||| p := ⟨_, rfl⟩
  rw [← hr'] at hor hob ⊢
  have hwp : IntKind.u64.wrap (p : Int) = (p : Int) := by rw [IntKind.wrap_u64]; omega
  clear hp' hr'
  go_enter Try.func34, Try.ntmps34
  go_wp2_with fail
  have hS : (fun w' : World => w'.cell? ⟨w.heap.size, 0, none⟩ = some (.int .u64 s0)) ((w.alloc (.cells #[.int .u64 s0, .int .u64 s1] 55)).alloc (.cells #[.int .u64 0, .int .u64 0] 55)).drew := hO.out.b0.cell 0
  refine wp_region_K (S := fun w' : World => w'.cell? ⟨w.heap.size, 0, none⟩ = some (.int .u64 s0)) (K := [9]) (by kernel_rfl) ?_
  refine AnyK.take (i := 0) (v := .int .i64 (i : Int)) rfl (by kernel_rfl) (by kernel_rfl) (by kernel_rfl) (by kernel_rfl) (by kernel_rfl) (by kernel_rfl) (fun _ _ _ h => h) (Or.inl ⟨by rfl, ?_⟩) hS ?_
  · rintro w' a0
    go_simp
  (try simp only [Act.put, List.setIfInBounds_toArray, List.set_cons_zero, List.set_cons_succ])
  refine AnyK.take (i := 1) (v := .int .i64 0) rfl (by kernel_rfl) (by kernel_rfl) (by kernel_rfl) (by kernel_rfl) (by kernel_rfl) (by kernel_rfl) (fun _ _ _ h => h) (Or.inl ⟨by rfl, ?_⟩) hS ?_
  · rintro w' a0
    go_simp
  (try simp only [Act.put, List.setIfInBounds_toArray, List.set_cons_zero, List.set_cons_succ])
  refine AnyK.take (i := 2) (v := .pointer (some ⟨w.heap.size, 0, none⟩)) rfl (by kernel_rfl) (by kernel_rfl) (by kernel_rfl) (by kernel_rfl) (by kernel_rfl) (by kernel_rfl) (fun _ _ _ h => h) (Or.inl ⟨by rfl, ?_⟩) hS ?_
  · rintro w' a0
    go_simp
  (try simp only [Act.put, List.setIfInBounds_toArray, List.set_cons_zero, List.set_cons_succ])
  refine AnyK.take (i := 3) (v := .int .u64 (s0 : Int)) rfl (by kernel_rfl) (by kernel_rfl) (by kernel_rfl) (by kernel_rfl) (by kernel_rfl) (by kernel_rfl) (fun _ _ _ h => h) (Or.inl ⟨by rfl, ?_⟩) hS ?_
  · rintro w' a0
    go_simp
  (try simp only [Act.put, List.setIfInBounds_toArray, List.set_cons_zero, List.set_cons_succ])
  refine AnyK.take (i := 4) (v := .int .i64 (i : Int)) rfl (by kernel_rfl) (by kernel_rfl) (by kernel_rfl) (by kernel_rfl) (by kernel_rfl) (by kernel_rfl) (fun _ _ _ h => h) (Or.inl ⟨by rfl, ?_⟩) hS ?_
  · rintro w' a0
    go_simp
  (try simp only [Act.put, List.setIfInBounds_toArray, List.set_cons_zero, List.set_cons_succ])
  refine AnyK.take (i := 5) (v := .int .i64 (i : Int)) rfl (by kernel_rfl) (by kernel_rfl) (by kernel_rfl) (by kernel_rfl) (by kernel_rfl) (by kernel_rfl) (fun _ _ _ h => h) (Or.inl ⟨by rfl, ?_⟩) hS ?_
  · rintro w' a0
    go_simp
  (try simp only [Act.put, List.setIfInBounds_toArray, List.set_cons_zero, List.set_cons_succ])
  refine AnyK.take (i := 6) (v := .int .u64 (p : Int)) rfl (by kernel_rfl) (by kernel_rfl) (by kernel_rfl) (by kernel_rfl) (by kernel_rfl) (by kernel_rfl) (fun _ _ _ h => h) (Or.inl ⟨by rfl, ?_⟩) hS ?_
  · rintro w' a0
    go_simp
  (try simp only [Act.put, List.setIfInBounds_toArray, List.set_cons_zero, List.set_cons_succ])
  refine AnyK.take (i := 7) (v := .int .u64 (r : Int)) rfl (by kernel_rfl) (by kernel_rfl) (by kernel_rfl) (by kernel_rfl) (by kernel_rfl) (by kernel_rfl) (fun _ _ _ h => h) (Or.inl ⟨by rfl, ?_⟩) hS ?_
  · rintro w' a0
    go_simp
  (try simp only [Act.put, List.setIfInBounds_toArray, List.set_cons_zero, List.set_cons_succ])
  refine AnyK.take (i := 8) (v := .pointer (some ⟨w.heap.size, 0, none⟩)) rfl (by kernel_rfl) (by kernel_rfl) (by kernel_rfl) (by kernel_rfl) (by kernel_rfl) (by kernel_rfl) (fun _ _ _ h => h) (Or.inl ⟨by rfl, ?_⟩) hS ?_
  · rintro w' a0
    go_simp
  (try simp only [Act.put, List.setIfInBounds_toArray, List.set_cons_zero, List.set_cons_succ])
  have hc0 := hO.out.drew.b0.cell 0
  have hf0 := hO.out.drew.b0.frozen 0
  simp at hc0
  refine AnyK.one (i := 9) (by kernel_rfl) rfl (fun K' hK => ?_)
  go_simp
  refine hK.out _ _ (fun h => absurd h (Bool.eq_false_iff.1 (by kernel_rfl))) ?_
  clear hK
  (try simp only [Act.put, List.setIfInBounds_toArray, List.set_cons_zero, List.set_cons_succ])
  refine AnyK.done (by kernel_rfl) ?_ _
  go_wp2_with fail
  refine bodyPost_ret (v := .agg #[.int .u64 (r : Int), .int .u64 (s1 : Int)]) (by simp [results, Try.results34, go_sem]) rfl ⟨rfl, (((Below.refl _ _).alloc (Nat.le_refl _) _).alloc (by simp) _).drew⟩

end Go.Proofs.Ytjbhnfejpgjghaa
