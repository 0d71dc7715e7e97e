/- What the package num does with fractions. -/
import Derived.Test.YtgoojlnfobjplaaZl
namespace Go.Proofs.Ytgoojlnfobjplaa
open Go.RowKit
set_option linter.unusedSimpArgs false
set_option linter.unusedVariables false
attribute [local go_sem] qn30 qe30

/-- how large a fraction is, in bits -/
structure Sz (k : Nat) (r : Rat) : Prop where
  num : r.num.natAbs < 2 ^ k
  den : r.den < 2 ^ k

theorem pow32 (k : Nat) : (4294967296 : Nat) ^ k = 2 ^ (32 * k) := by rw [Nat.pow_mul]
theorem fit_of {n : Int} {k : Nat} (h : n.natAbs < 2 ^ k) (hk : k ≤ 9600000) : Fit n := by
  refine ⟨Nat.lt_of_lt_of_le h ?_⟩
  rw [pow32 lim]
  exact Nat.pow_le_pow_right (by omega) (by unfold lim; omega)
theorem mul_lt_pow {a b j k : Nat} (ha : a < 2 ^ j) (hb : b < 2 ^ k) : a * b < 2 ^ (j + k) := by
  rw [Nat.pow_add]
  exact Nat.mul_lt_mul'' ha hb
theorem mul_size {a b : Int} {j k : Nat} (ha : a.natAbs < 2 ^ j) (hb : b.natAbs < 2 ^ k) : (a * b).natAbs < 2 ^ (j + k) := by
  rw [Int.natAbs_mul]; exact mul_lt_pow ha hb
theorem add_size {a b : Int} {k : Nat} (ha : a.natAbs < 2 ^ k) (hb : b.natAbs < 2 ^ k) : (a + b).natAbs < 2 ^ (k + 1) := by
  rw [Nat.pow_succ]; omega
theorem den_abs (r : Rat) : ((r.den : Int)).natAbs = r.den := rfl
theorem Sz.fn {k : Nat} {r : Rat} (h : Sz k r) (hk : k ≤ 9600000) : Fit r.num := fit_of h.num hk
theorem Sz.fd {k : Nat} {r : Rat} (h : Sz k r) (hk : k ≤ 9600000) : Fit (r.den : Int) := fit_of (n := (r.den : Int)) h.den hk

theorem divInt_size {n m : Int} {k : Nat} (hn : n.natAbs < 2 ^ k) (hm : m.natAbs < 2 ^ k) (h0 : m ≠ 0) : Sz k (Rat.divInt n m) := by
  have key : ∀ a b : Int, 0 < b → a.natAbs < 2 ^ k → b.natAbs < 2 ^ k → Sz k (Rat.divInt a b) := by
    intro a b hb ha hb2
    refine ⟨?_, ?_⟩
    · rw [over_num hb, Int.natAbs_tdiv]
      exact Nat.lt_of_le_of_lt (Nat.div_le_self _ _) ha
    · have := over_den (n := a) hb
      have h2 : (Rat.divInt a b).den ≤ b.natAbs := by
        have h3 : ((Rat.divInt a b).den : Int).natAbs = (b.tdiv (Int.gcd a b : Int)).natAbs := by rw [this]
        rw [Int.natAbs_tdiv] at h3
        rw [← den_abs, h3]
        exact Nat.div_le_self _ _
      omega
  rcases Int.lt_or_le 0 m with h | h
  · exact key n m h hn hm
  · rw [← over_neg]
    exact key (-n) (-m) (by omega) (by simpa using hn) (by simpa using hm)

theorem Sz.add {j k : Nat} {a b : Rat} (ha : Sz j a) (hb : Sz k b) : Sz (j + k + 1) (a + b) := by
  rw [add_rat]
  refine divInt_size (add_size (mul_size ha.num (by simpa using hb.den)) ?_) ?_ (by have := a.den_nz; have := b.den_nz; simp; omega)
  · have := mul_size hb.num (show ((a.den : Int)).natAbs < 2 ^ j by simpa using ha.den)
    rwa [Nat.add_comm] at this
  · have := mul_size (show ((a.den : Int)).natAbs < 2 ^ j by simpa using ha.den) (show ((b.den : Int)).natAbs < 2 ^ k by simpa using hb.den)
    rw [Nat.pow_succ]; omega
theorem Sz.mul {j k : Nat} {a b : Rat} (ha : Sz j a) (hb : Sz k b) : Sz (j + k) (a * b) := by
  rw [mul_rat]
  exact divInt_size (mul_size ha.num hb.num) (mul_size (by simpa using ha.den) (by simpa using hb.den)) (by have := a.den_nz; have := b.den_nz; simp; omega)
theorem Sz.neg {k : Nat} {a : Rat} (ha : Sz k a) : Sz k (-a) := ⟨by rw [(neg_rat a).1, Int.natAbs_neg]; exact ha.num, by rw [(neg_rat a).2]; exact ha.den⟩
theorem Sz.mono {j k : Nat} {a : Rat} (ha : Sz j a) (h : j ≤ k) : Sz k a :=
  ⟨Nat.lt_of_lt_of_le ha.num (Nat.pow_le_pow_right (by omega) h), Nat.lt_of_lt_of_le ha.den (Nat.pow_le_pow_right (by omega) h)⟩

theorem keep6 {w w1 : World} {p : Qv} {t : TypeId} {r} (h : Own w ((t, #[.int .i64 p.n.x, .slice p.n.A p.n.l p.n.c, .bool p.n.g, .int .i64 p.d.x, .slice p.d.A p.d.l p.d.c, .bool p.d.g]) :: r) w1) : w1.cell? ⟨w.heap.size, 0, none⟩ = some (.int .i64 p.n.x) ∧ w1.cell? ⟨w.heap.size, 1, none⟩ = some (.slice p.n.A p.n.l p.n.c) ∧ w1.cell? ⟨w.heap.size, 2, none⟩ = some (.bool p.n.g) ∧ w1.cell? ⟨w.heap.size, 3, none⟩ = some (.int .i64 p.d.x) ∧ w1.cell? ⟨w.heap.size, 4, none⟩ = some (.slice p.d.A p.d.l p.d.c) ∧ w1.cell? ⟨w.heap.size, 5, none⟩ = some (.bool p.d.g) :=
  ⟨h.b0.cell 0, h.b0.cell 1, h.b0.cell 2, h.b0.cell 3, h.b0.cell 4, h.b0.cell 5⟩
theorem keep66 {w w1 : World} {p q : Qv} {t : TypeId} {r} (h : Own w ((t, #[.int .i64 p.n.x, .slice p.n.A p.n.l p.n.c, .bool p.n.g, .int .i64 p.d.x, .slice p.d.A p.d.l p.d.c, .bool p.d.g]) :: (t, #[.int .i64 q.n.x, .slice q.n.A q.n.l q.n.c, .bool q.n.g, .int .i64 q.d.x, .slice q.d.A q.d.l q.d.c, .bool q.d.g]) :: r) w1) : (w1.cell? ⟨w.heap.size, 0, none⟩ = some (.int .i64 p.n.x) ∧ w1.cell? ⟨w.heap.size, 1, none⟩ = some (.slice p.n.A p.n.l p.n.c) ∧ w1.cell? ⟨w.heap.size, 2, none⟩ = some (.bool p.n.g) ∧ w1.cell? ⟨w.heap.size, 3, none⟩ = some (.int .i64 p.d.x) ∧ w1.cell? ⟨w.heap.size, 4, none⟩ = some (.slice p.d.A p.d.l p.d.c) ∧ w1.cell? ⟨w.heap.size, 5, none⟩ = some (.bool p.d.g)) ∧ (w1.cell? ⟨w.heap.size + 1, 0, none⟩ = some (.int .i64 q.n.x) ∧ w1.cell? ⟨w.heap.size + 1, 1, none⟩ = some (.slice q.n.A q.n.l q.n.c) ∧ w1.cell? ⟨w.heap.size + 1, 2, none⟩ = some (.bool q.n.g) ∧ w1.cell? ⟨w.heap.size + 1, 3, none⟩ = some (.int .i64 q.d.x) ∧ w1.cell? ⟨w.heap.size + 1, 4, none⟩ = some (.slice q.d.A q.d.l q.d.c) ∧ w1.cell? ⟨w.heap.size + 1, 5, none⟩ = some (.bool q.d.g)) :=
  ⟨keep6 h, h.b1.cell 0, h.b1.cell 1, h.b1.cell 2, h.b1.cell 3, h.b1.cell 4, h.b1.cell 5⟩
theorem keep6s {w w1 w2 : World} {p : Qv} {t : TypeId} {r} (h : Own w ((t, #[.int .i64 p.n.x, .slice p.n.A p.n.l p.n.c, .bool p.n.g, .int .i64 p.d.x, .slice p.d.A p.d.l p.d.c, .bool p.d.g]) :: r) w1) (hs : SetB (w.heap.size + 1) w1 w2) : w2.cell? ⟨w.heap.size, 0, none⟩ = some (.int .i64 p.n.x) ∧ w2.cell? ⟨w.heap.size, 1, none⟩ = some (.slice p.n.A p.n.l p.n.c) ∧ w2.cell? ⟨w.heap.size, 2, none⟩ = some (.bool p.n.g) ∧ w2.cell? ⟨w.heap.size, 3, none⟩ = some (.int .i64 p.d.x) ∧ w2.cell? ⟨w.heap.size, 4, none⟩ = some (.slice p.d.A p.d.l p.d.c) ∧ w2.cell? ⟨w.heap.size, 5, none⟩ = some (.bool p.d.g) := by
  have k : ∀ i, w2.cell? ⟨w.heap.size, i, none⟩ = w1.cell? ⟨w.heap.size, i, none⟩ := fun i => hs.2 ⟨w.heap.size, i, none⟩ (by simp)
  rw [k 0, k 1, k 2, k 3, k 4, k 5]
  exact keep6 h
theorem keep66s {w w1 w2 : World} {p q : Qv} {t : TypeId} {r} (h : Own w ((t, #[.int .i64 p.n.x, .slice p.n.A p.n.l p.n.c, .bool p.n.g, .int .i64 p.d.x, .slice p.d.A p.d.l p.d.c, .bool p.d.g]) :: (t, #[.int .i64 q.n.x, .slice q.n.A q.n.l q.n.c, .bool q.n.g, .int .i64 q.d.x, .slice q.d.A q.d.l q.d.c, .bool q.d.g]) :: r) w1) (hs : SetB (w.heap.size + 1 + 1) w1 w2) : (w2.cell? ⟨w.heap.size, 0, none⟩ = some (.int .i64 p.n.x) ∧ w2.cell? ⟨w.heap.size, 1, none⟩ = some (.slice p.n.A p.n.l p.n.c) ∧ w2.cell? ⟨w.heap.size, 2, none⟩ = some (.bool p.n.g) ∧ w2.cell? ⟨w.heap.size, 3, none⟩ = some (.int .i64 p.d.x) ∧ w2.cell? ⟨w.heap.size, 4, none⟩ = some (.slice p.d.A p.d.l p.d.c) ∧ w2.cell? ⟨w.heap.size, 5, none⟩ = some (.bool p.d.g)) ∧ (w2.cell? ⟨w.heap.size + 1, 0, none⟩ = some (.int .i64 q.n.x) ∧ w2.cell? ⟨w.heap.size + 1, 1, none⟩ = some (.slice q.n.A q.n.l q.n.c) ∧ w2.cell? ⟨w.heap.size + 1, 2, none⟩ = some (.bool q.n.g) ∧ w2.cell? ⟨w.heap.size + 1, 3, none⟩ = some (.int .i64 q.d.x) ∧ w2.cell? ⟨w.heap.size + 1, 4, none⟩ = some (.slice q.d.A q.d.l q.d.c) ∧ w2.cell? ⟨w.heap.size + 1, 5, none⟩ = some (.bool q.d.g)) := by
  have k : ∀ i, w2.cell? ⟨w.heap.size, i, none⟩ = w1.cell? ⟨w.heap.size, i, none⟩ := fun i => hs.2 ⟨w.heap.size, i, none⟩ (by simp; omega)
  have k' : ∀ i, w2.cell? ⟨w.heap.size + 1, i, none⟩ = w1.cell? ⟨w.heap.size + 1, i, none⟩ := fun i => hs.2 ⟨w.heap.size + 1, i, none⟩ (by simp)
  rw [k 0, k 1, k 2, k 3, k 4, k 5, k' 0, k' 1, k' 2, k' 3, k' 4, k' 5]
  exact keep66 h

theorem isone (d : Nat) : (((d : Int) - 1).sign == 0) = decide (d = 1) := by
  by_cases h : d = 1
  · subst h; rfl
  · have h2 : ((d : Int) - 1).sign ≠ 0 := by rw [Ne, Int.sign_eq_zero_iff_zero]; omega
    simp [h]
    omega

theorem iszero (n : Int) : (n.sign == 0) = decide (n = 0) := by
  by_cases h : n = 0
  · subst h; rfl
  · have h2 : n.sign ≠ 0 := by rw [Ne, Int.sign_eq_zero_iff_zero]; exact h
    simp [h]

theorem ret_bool {a b : Bool} (h : a = b) : Ending.returned (.bool a) = .returned (.bool b) := by rw [h]

end Go.Proofs.Ytgoojlnfobjplaa
