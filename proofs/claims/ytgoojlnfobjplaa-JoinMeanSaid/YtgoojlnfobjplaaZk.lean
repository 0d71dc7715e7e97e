/- Plain laws on fractions: what a fraction in lowest terms is. -/
import Derived.Test.YtgoojlnfobjplaaZj
namespace Go.Proofs.Ytgoojlnfobjplaa
open Go.RowKit
set_option linter.unusedSimpArgs false
set_option linter.unusedVariables false

theorem over_num {n m : Int} (h : 0 < m) : (Rat.divInt n m).num = n.tdiv (Int.gcd n m : Int) := by
  rw [Rat.num_divInt, Int.sign_eq_one_of_pos h, Int.one_mul, Int.gcd_comm]
  exact (Int.tdiv_eq_ediv_of_dvd (Int.gcd_dvd_left _ _)).symm
theorem over_den {n m : Int} (h : 0 < m) : ((Rat.divInt n m).den : Int) = m.tdiv (Int.gcd n m : Int) := by
  rw [Rat.den_divInt, if_neg (by omega), Int.gcd_comm, Int.natCast_ediv]
  rw [Int.tdiv_eq_ediv_of_dvd (Int.gcd_dvd_right _ _)]
  congr 1
  omega
theorem over_neg {n m : Int} : Rat.divInt (-n) (-m) = Rat.divInt n m := Rat.neg_divInt_neg n m
theorem over_one {n m : Int} (h : 0 < m) (hg : Int.gcd n m = 1) : (Rat.divInt n m).num = n ∧ ((Rat.divInt n m).den : Int) = m := by
  rw [over_num h, over_den h, hg]
  simp
theorem rat_self (r : Rat) : Rat.divInt r.num r.den = r := Rat.num_divInt_den r
theorem add_rat (a b : Rat) : a + b = Rat.divInt (a.num * b.den + b.num * a.den) (a.den * b.den) := by
  rw [← Rat.divInt_add_divInt _ _ (by have := a.den_nz; omega) (by have := b.den_nz; omega), rat_self, rat_self]
theorem mul_rat (a b : Rat) : a * b = Rat.divInt (a.num * b.num) (a.den * b.den) := by
  rw [← Rat.divInt_mul_divInt, rat_self, rat_self]
theorem div_rat (a b : Rat) : a / b = Rat.divInt (a.num * b.den) (a.den * b.num) := by
  rw [Rat.div_def, Rat.inv_def, ← Rat.divInt_mul_divInt, rat_self]
theorem neg_rat (a : Rat) : (-a).num = -a.num ∧ (-a).den = a.den := ⟨rfl, rfl⟩
theorem int_add (a b : Rat) (h1 : a.den = 1) (h2 : b.den = 1) : (a + b).num = a.num + b.num ∧ (a + b).den = 1 := by
  obtain ⟨x, rfl⟩ : ∃ x : Int, a = x := ⟨a.num, by apply Rat.ext <;> simp [h1]⟩
  obtain ⟨y, rfl⟩ : ∃ x : Int, b = x := ⟨b.num, by apply Rat.ext <;> simp [h2]⟩
  rw [← Rat.intCast_add]
  simp only [Rat.num_intCast, Rat.den_intCast, and_self]
theorem int_mul (a b : Rat) (h1 : a.den = 1) (h2 : b.den = 1) : (a * b).num = a.num * b.num ∧ (a * b).den = 1 := by
  obtain ⟨x, rfl⟩ : ∃ x : Int, a = x := ⟨a.num, by apply Rat.ext <;> simp [h1]⟩
  obtain ⟨y, rfl⟩ : ∃ x : Int, b = x := ⟨b.num, by apply Rat.ext <;> simp [h2]⟩
  rw [← Rat.intCast_mul]
  simp only [Rat.num_intCast, Rat.den_intCast, and_self]

end Go.Proofs.Ytgoojlnfobjplaa
