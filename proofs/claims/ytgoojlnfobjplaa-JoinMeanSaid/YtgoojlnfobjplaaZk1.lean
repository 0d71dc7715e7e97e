/- Plain laws of the long division (Knuth's): the guess of a word, the product taken away, the divisor given back. -/
import Derived.Test.YtgoojlnfobjplaaZf
namespace Go.Proofs.Ytgoojlnfobjplaa
open Go.RowKit
set_option linter.unusedSimpArgs false
set_option linter.unusedVariables false

/-- the guess: q with the rest r of the first two words, never below the true word -/
def Qh (V U top V1 q r : Nat) : Prop := q * V1 + r = top ∧ U / V ≤ q

section
variable {V1 V2 V3 W top U1 U3 q r V U : Nat}

theorem Qh.init (hV : V = V1 * 4294967296 * W + V2 * W + V3) (hU : U = top * 4294967296 * W + U1 * W + U3) (h1 : 0 < V1) (hW : 0 < W) (hU1 : U1 < 4294967296) (hU3 : U3 < W) : Qh V U top V1 (top / V1) (top % V1) := by
  refine ⟨by rw [Nat.mul_comm]; exact Nat.div_add_mod top V1, ?_⟩
  have hlt : top + 1 ≤ (top / V1 + 1) * V1 := by
    have := Nat.div_add_mod top V1
    have := Nat.mod_lt top h1
    have e : (top / V1 + 1) * V1 = V1 * (top / V1) + V1 := by rw [Nat.add_mul, Nat.mul_comm]; omega
    omega
  have h2 : U < (top + 1) * 4294967296 * W := by
    have e1 : (U1 + 1) * W ≤ 4294967296 * W := Nat.mul_le_mul_right _ hU1
    have e2 : (top + 1) * 4294967296 * W = top * 4294967296 * W + 4294967296 * W := by grind
    have e3 : (U1 + 1) * W = U1 * W + W := by grind
    omega
  have h3 : (top + 1) * 4294967296 * W ≤ (top / V1 + 1) * V := by
    have e1 : (top + 1) * (4294967296 * W) ≤ (top / V1 + 1) * V1 * (4294967296 * W) := Nat.mul_le_mul_right _ hlt
    have e2 : (top / V1 + 1) * (V1 * 4294967296 * W) ≤ (top / V1 + 1) * V := Nat.mul_le_mul_left _ (by omega)
    have e3 : (top / V1 + 1) * V1 * (4294967296 * W) = (top / V1 + 1) * (V1 * 4294967296 * W) := by grind
    have e4 : (top + 1) * (4294967296 * W) = (top + 1) * 4294967296 * W := by grind
    omega
  have : U / V < top / V1 + 1 := Nat.div_lt_of_lt_mul (by rw [Nat.mul_comm]; omega)
  omega

theorem Qh.dec1 (h : Qh V U top V1 q r) (hUV : U < V * 4294967296) (hq : 4294967296 ≤ q) : Qh V U top V1 (q - 1) (r + V1) := by
  obtain ⟨h1, h2⟩ := h
  have h3 : U / V < 4294967296 := Nat.div_lt_of_lt_mul hUV
  obtain ⟨p, rfl⟩ : ∃ p, q = p + 1 := ⟨q - 1, by omega⟩
  refine ⟨?_, by omega⟩
  rw [Nat.add_mul] at h1
  rw [Nat.add_sub_cancel]
  omega

theorem Qh.dec2 (hV : V = V1 * 4294967296 * W + V2 * W + V3) (hU : U = top * 4294967296 * W + U1 * W + U3) (hU3 : U3 < W) (hV0 : 0 < V)
    (h : Qh V U top V1 q r) (hq : r * 4294967296 + U1 < q * V2) : Qh V U top V1 (q - 1) (r + V1) := by
  obtain ⟨h1, h2⟩ := h
  have h0 : 0 < q := by
    rcases Nat.eq_zero_or_pos q with rfl | h
    · omega
    · exact h
  have hne : U / V < q := by
    rcases Nat.lt_or_ge (U / V) q with h3 | h3
    · exact h3
    · exfalso
      have h4 : q * V ≤ U := (Nat.le_div_iff_mul_le hV0).1 h3
      subst hV hU
      rw [← h1] at h4
      have e1 : (r * 4294967296 + U1 + 1) * W ≤ q * V2 * W := Nat.mul_le_mul_right _ hq
      have e2 : q * (V1 * 4294967296 * W + V2 * W + V3) = q * V1 * 4294967296 * W + q * V2 * W + q * V3 := by grind
      have e3 : (q * V1 + r) * 4294967296 * W = q * V1 * 4294967296 * W + r * 4294967296 * W := by grind
      have e4 : (r * 4294967296 + U1 + 1) * W = r * 4294967296 * W + U1 * W + W := by grind
      omega
  obtain ⟨p, rfl⟩ : ∃ p, q = p + 1 := ⟨q - 1, by omega⟩
  refine ⟨?_, by omega⟩
  rw [Nat.add_mul] at h1
  rw [Nat.add_sub_cancel]
  omega

theorem Qh.exit (hV : V = V1 * 4294967296 * W + V2 * W + V3) (hU : U = top * 4294967296 * W + U1 * W + U3) (h1 : 0 < V1) (hV3 : V3 < W)
    (h : Qh V U top V1 q r) (hq : q < 4294967296) (hle : q * V2 ≤ r * 4294967296 + U1) : q ≤ U / V + 1 := by
  obtain ⟨h2, -⟩ := h
  have hV0 : 4294967296 * W ≤ V := by
    have : 1 * (4294967296 * W) ≤ V1 * (4294967296 * W) := Nat.mul_le_mul_right _ h1
    have e : V1 * (4294967296 * W) = V1 * 4294967296 * W := by grind
    omega
  have hlt : q * V < U + V := by
    have e1 : q * V = q * V1 * 4294967296 * W + q * V2 * W + q * V3 := by subst hV; grind
    have e2 : q * V2 * W ≤ (r * 4294967296 + U1) * W := Nat.mul_le_mul_right _ hle
    have e3 : (r * 4294967296 + U1) * W = r * 4294967296 * W + U1 * W := by grind
    have e4 : top * 4294967296 * W = q * V1 * 4294967296 * W + r * 4294967296 * W := by rw [← h2]; grind
    have e5 : q * V3 ≤ 4294967295 * V3 := Nat.mul_le_mul_right _ (by omega)
    omega
  rcases q with _ | p
  · exact Nat.zero_le _
  · have : p * V ≤ U := by rw [Nat.add_mul] at hlt; omega
    have hV1 : 0 < V := by omega
    have := (Nat.le_div_iff_mul_le hV1).2 this
    omega

theorem Qh.brk (h : Qh V U top V1 q r) (htop : top ≤ V1 * 4294967296 + 4294967295) (hr : 4294967296 ≤ r) (h1 : 0 < V1) (hV2 : V2 < 4294967296) : q < 4294967296 ∧ q * V2 ≤ r * 4294967296 + U1 := by
  obtain ⟨h2, -⟩ := h
  have hq : q < 4294967296 := by
    rcases Nat.lt_or_ge q 4294967296 with h3 | h3
    · exact h3
    · have : 4294967296 * V1 ≤ q * V1 := Nat.mul_le_mul_right _ h3
      omega
  refine ⟨hq, ?_⟩
  have : q * V2 ≤ 4294967295 * 4294967295 := Nat.mul_le_mul (by omega) (by omega)
  omega
end

/-- the product is being taken away: L0 before, i words done, bw the borrow, cy the product's carry -/
def MS (L0 L : List Nat) (j q : Nat) (ys : List Nat) (i bw cy : Nat) : Prop :=
  val L + 4294967296 ^ j * (q * val (ys.take i)) = val L0 + 4294967296 ^ (j + i) * (bw + cy) ∧ L.length = L0.length ∧ ∀ k, j + i ≤ k → L[k]? = L0[k]?

theorem MS.start (L0 : List Nat) (j q : Nat) (ys : List Nat) : MS L0 L0 j q ys 0 0 0 := ⟨by simp [val], rfl, fun _ _ => rfl⟩

theorem ms_alg {P Q L' L L0 u t bw cy q v vt bw' pm pd : Nat} (e : L' + P * Q * u = L + P * Q * t) (h : L + P * (q * vt) = L0 + P * Q * (bw + cy)) (hp : 4294967296 * pd + pm = q * v + cy) (ht : t + bw + pm = u + 4294967296 * bw') :
    L' + P * (q * (vt + Q * v)) = L0 + P * Q * 4294967296 * (bw' + pd) := by
  have e1 : P * Q * (t + bw + pm) = P * Q * (u + 4294967296 * bw') := by rw [ht]
  have e2 : P * Q * (4294967296 * pd + pm) = P * Q * (q * v + cy) := by rw [hp]
  grind

theorem MS.step {L0 L : List Nat} {j q i bw cy u v t bw' : Nat} {ys : List Nat} (h : MS L0 L j q ys i bw cy) (hu : L[j + i]? = some u) (hv : ys[i]? = some v)
    (ht : t + bw + (q * v + cy) % 4294967296 = u + 4294967296 * bw') : MS L0 (L.set (j + i) t) j q ys (i + 1) bw' ((q * v + cy) / 4294967296) := by
  obtain ⟨h1, h2, h3⟩ := h
  refine ⟨?_, by simpa using h2, fun k hk => ?_⟩
  · have e := val_set L (j + i) u t hu
    rw [val_take_succ ys i v hv, show j + (i + 1) = (j + i) + 1 by omega, Nat.pow_succ]
    rw [Nat.pow_add] at *
    exact ms_alg e h1 (Nat.div_add_mod (q * v + cy) 4294967296) ht
  · rw [List.getElem?_set_ne (by omega)]
    exact h3 k (by omega)

/-- the divisor is being given back -/
def AB (L1 L : List Nat) (j : Nat) (ys : List Nat) (i c : Nat) : Prop :=
  val L + 4294967296 ^ (j + i) * c = val L1 + 4294967296 ^ j * val (ys.take i) ∧ L.length = L1.length ∧ ∀ k, j + i ≤ k → L[k]? = L1[k]?

theorem AB.start (L1 : List Nat) (j : Nat) (ys : List Nat) : AB L1 L1 j ys 0 0 := ⟨by simp [val], rfl, fun _ _ => rfl⟩

theorem ab_alg {P Q L' L L1 u c v vt sm sd : Nat} (e : L' + P * Q * u = L + P * Q * sm) (h : L + P * Q * c = L1 + P * vt) (hs : 4294967296 * sd + sm = u + v + c) :
    L' + P * Q * 4294967296 * sd = L1 + P * (vt + Q * v) := by
  have e1 : P * Q * (4294967296 * sd + sm) = P * Q * (u + v + c) := by rw [hs]
  grind

theorem AB.step {L1 L : List Nat} {j i c u v : Nat} {ys : List Nat} (h : AB L1 L j ys i c) (hu : L[j + i]? = some u) (hv : ys[i]? = some v) :
    AB L1 (L.set (j + i) ((u + v + c) % 4294967296)) j ys (i + 1) ((u + v + c) / 4294967296) := by
  obtain ⟨h1, h2, h3⟩ := h
  refine ⟨?_, by simpa using h2, fun k hk => ?_⟩
  · have e := val_set L (j + i) u ((u + v + c) % 4294967296) hu
    rw [val_take_succ ys i v hv, show j + (i + 1) = (j + i) + 1 by omega, Nat.pow_succ]
    rw [Nat.pow_add] at *
    exact ab_alg e h1 (Nat.div_add_mod (u + v + c) 4294967296)
  · rw [List.getElem?_set_ne (by omega)]
    exact h3 k (by omega)

end Go.Proofs.Ytgoojlnfobjplaa
