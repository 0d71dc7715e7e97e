/- The quotient of words: plain laws of the shifts. -/
import Derived.Test.YtgoojlnfobjplaaZk3
import Derived.Test.YtgoojlnfobjplaaShelf
namespace Go.Proofs.Ytgoojlnfobjplaa
open Go.RowKit
set_option linter.unusedSimpArgs false
set_option linter.unusedVariables false

/-- s bits are shifted; e, f their powers -/
def ShE (s e f : Nat) : Prop := e = 2 ^ s ∧ e * f = 4294967296

theorem blen_bounds : ∀ (f x : Nat), x < 2 ^ f → x ≠ 0 → 1 ≤ Lib.bitLenAux f x ∧ x < 2 ^ Lib.bitLenAux f x
  | 0, x, h, h0 => by simp at h; omega
  | f + 1, x, h, h0 => by
    unfold Lib.bitLenAux
    rw [if_neg h0]
    refine ⟨by omega, ?_⟩
    rw [Nat.add_comm 1, Nat.pow_succ]
    by_cases h2 : x / 2 = 0
    · have := Nat.two_pow_pos (Lib.bitLenAux f (x / 2))
      omega
    · have := (blen_bounds f (x / 2) (by rw [Nat.pow_succ] at h; omega) h2).2
      omega

theorem lead32 (t : Nat) (h0 : t ≠ 0) (h1 : t < 4294967296) (w : World) :
    Calls Try.prog 76 #[.int .u32 t] w fun e' w' => ∃ s e f : Nat, e' = .returned (.int .i64 s) ∧ w = w' ∧ s ≤ 31 ∧ Hid (ShE s e f) ∧ Hid (t * e < 4294967296) ∧ (2 : Int) ^ s = (e : Int) ∧ (2 : Int) ^ (32 - s) = (f : Int) ∧ 1 ≤ e ∧ 1 ≤ f ∧ (s = 0 → e = 1) := by
  refine (Try.bits_LeadingZeros32 t w (by omega) (by omega)).mono ?_
  rintro e' w' ⟨rfl, rfl⟩
  have e1 : (t : Int).toNat = t := by omega
  rw [e1]
  have hb := blen_bounds 64 t (by omega) h0
  have hl := Lib.bitLen_le t 32 (by omega) (by simpa using h1)
  change 1 ≤ Lib.bitLen t ∧ t < 2 ^ Lib.bitLen t at hb
  generalize Lib.bitLen t = b at *
  obtain ⟨b1, b3⟩ := hb
  refine ⟨32 - b, 2 ^ (32 - b), 2 ^ b, by rw [show (32 : Int) - (b : Int) = ((32 - b : Nat) : Int) by omega], rfl, by omega, ⟨rfl, by rw [← Nat.pow_add, show 32 - b + b = 32 by omega]⟩, ?_, ?_, ?_, Nat.one_le_two_pow, Nat.one_le_two_pow, ?_⟩
  · show _ < _
    have h2 : t * 2 ^ (32 - b) < 2 ^ b * 2 ^ (32 - b) := Nat.mul_lt_mul_of_pos_right b3 (Nat.two_pow_pos _)
    rw [← Nat.pow_add, show b + (32 - b) = 32 by omega] at h2
    simpa using h2
  · norm_cast
  · rw [show 32 - (32 - b) = b by omega]; norm_cast
  · intro h; rw [h]

theorem or_sh {s e f x p : Nat} (h : ShE s e f) (hf : 1 ≤ f) (he : 1 ≤ e) (hp : p < 4294967296) : bits .or .u32 (((x * e) % 4294967296 : Nat) : Int) ((p / f : Nat) : Int) = (((x * e) % 4294967296 + p * e / 4294967296 : Nat) : Int) ∧ (x * e) % 4294967296 + p * e / 4294967296 < 4294967296 := by
  obtain ⟨h1, h2⟩ := h
  have e1 : (x * e) % 4294967296 = e * (x % f) := by rw [← h2, Nat.mul_comm x e, Nat.mul_mod_mul_left]
  have e2 : p * e / 4294967296 = p / f := by rw [← h2, Nat.mul_comm p e, Nat.mul_div_mul_left _ _ (by omega)]
  have e3 : p / f < e := Nat.div_lt_of_lt_mul (by rw [Nat.mul_comm]; omega)
  have e4 : e * (x % f) + e ≤ 4294967296 := by
    have : e * (x % f + 1) ≤ e * f := Nat.mul_le_mul_left _ (Nat.mod_lt _ (by omega))
    rw [Nat.mul_add] at this
    omega
  rw [e1, e2]
  refine ⟨?_, by omega⟩
  have e5 : e * (x % f) ||| p / f = e * (x % f) + p / f := by
    rw [h1] at e3 ⊢
    rw [Nat.two_pow_add_eq_or_of_lt e3]
  rw [u32_or_nat _ _ (by omega) (by omega), e5]

/-- the words below i of L say xs's times e, but for the carry c -/
def SH (xs L : List Nat) (e i c : Nat) : Prop :=
  val (L.take i) + 4294967296 ^ i * c = val (xs.take i) * e ∧ ∀ k, i ≤ k → k < L.length → L[k]? = some 0

theorem SH.start (xs : List Nat) (n e : Nat) : SH xs (List.replicate n 0) e 0 0 :=
  ⟨by simp [val], fun k _ hk => by rw [List.getElem?_replicate]; simp at hk; simp [hk]⟩

theorem sh_alg {P X V E x c t q L : Nat} (h : L + P * c = X * E) (ht : t + 4294967296 * q = x * E + c) : L + P * t + P * 4294967296 * q = (X + P * x) * E := by
  have e1 : P * (t + 4294967296 * q) = P * (x * E + c) := by rw [ht]
  grind

theorem take_set_succ {L : List Nat} {i t : Nat} (hl : i < L.length) : val ((L.set i t).take (i + 1)) = val (L.take i) + 4294967296 ^ i * t := by
  have e1 : (L.set i t)[i]? = some t := by rw [List.getElem?_set_self hl]
  rw [val_take_succ _ _ _ e1]
  rw [List.take_set_of_le (by omega)]

theorem SH.step {xs L : List Nat} {e i c x : Nat} (h : SH xs L e i c) (hx : xs[i]? = some x) (hl : i < L.length) : SH xs (L.set i ((x * e) % 4294967296 + c)) e (i + 1) (x * e / 4294967296) := by
  obtain ⟨h1, h2⟩ := h
  refine ⟨?_, fun k hk hkl => ?_⟩
  · rw [take_set_succ hl, val_take_succ _ _ _ hx, Nat.pow_succ]
    exact sh_alg (V := 0) h1 (by have := Nat.div_add_mod (x * e) 4294967296; omega)
  · rw [List.getElem?_set_ne (by omega)]
    exact h2 k (by omega) (by simpa using hkl)

/-- the word ahead of i, shifted out -/
def CY (xs : List Nat) (e i c : Nat) : Prop := (i = 0 ∧ c = 0) ∨ ∃ j p, i = j + 1 ∧ xs[j]? = some p ∧ c = p * e / 4294967296

theorem CY.zero {xs : List Nat} {e i c : Nat} (h : CY xs e i c) (hb : Bd xs) (he : i = 0 ∨ e = 1) : c = 0 := by
  rcases h with h | ⟨j, p, rfl, hp, rfl⟩
  · exact h.2
  · rcases he with he | rfl
    · omega
    · have := hb p (List.mem_of_getElem? hp)
      omega

theorem CY.at {xs : List Nat} {e i c p : Nat} (h : CY xs e (i + 1) c) (hp : xs[i]? = some p) : c = p * e / 4294967296 := by
  rcases h with h | ⟨j, p', hj, hp', rfl⟩
  · omega
  · obtain rfl : i = j := by omega
    rw [hp] at hp'
    injection hp' with hp'
    rw [hp']

theorem SH.last {ys V : List Nat} {e m cy t : Nat} (h : SH ys V e m cy) (hc : CY ys e m cy) (hl : ys.length = m) (hV : V.length = m) (ht : ys[m - 1]? = some t) (hm : 0 < m) (hte : t * e < 4294967296) : val V = val ys * e := by
  obtain ⟨j, rfl⟩ : ∃ j, m = j + 1 := ⟨m - 1, by omega⟩
  have hcy := hc.at (by simpa using ht)
  rw [Nat.div_eq_of_lt hte] at hcy
  have h1 := h.1
  rw [List.take_of_length_le (by omega), List.take_of_length_le (by omega), hcy, Nat.mul_zero, Nat.add_zero] at h1
  exact h1

theorem Tr.top {ys : List Nat} {m t : Nat} (h : Tr ys) (hl : ys.length = m) (hm : 0 < m) (ht : ys[m - 1]? = some t) : t ≠ 0 := by
  rintro rfl
  apply h
  rw [List.getLast?_eq_getElem?, hl, ht]

end Go.Proofs.Ytgoojlnfobjplaa
