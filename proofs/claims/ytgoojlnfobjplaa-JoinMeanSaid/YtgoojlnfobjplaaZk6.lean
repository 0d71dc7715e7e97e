/- The quotient of words: plain laws of the outer loop and of the rest. -/
import Derived.Test.YtgoojlnfobjplaaZk4
namespace Go.Proofs.Ytgoojlnfobjplaa
open Go.RowKit
set_option linter.unusedSimpArgs false
set_option linter.unusedVariables false

theorem pw (k : Nat) : 0 < 4294967296 ^ k := Nat.pow_pos (by decide)

theorem val_hi {L : List Nat} {i z : Nat} (h : L[i]? = some z) : 4294967296 ^ i * z ≤ val L := by
  have hl : i ≤ L.length := by have := (List.getElem?_eq_some_iff.1 h).1; omega
  rw [val_split L i hl, val_drop_at h, Nat.mul_add]
  exact Nat.le_trans (Nat.le_add_right _ _) (Nat.le_add_left _ _)

theorem val_small {L : List Nat} {k i z : Nat} (h : val L < 4294967296 ^ k) (hk : k ≤ i) (hz : L[i]? = some z) : z = 0 := by
  rcases Nat.eq_zero_or_pos z with h0 | h0
  · exact h0
  · have h1 := val_hi hz
    have h2 : 4294967296 ^ k ≤ 4294967296 ^ i := Nat.pow_le_pow_right (by decide) hk
    have h3 : 4294967296 ^ i * 1 ≤ 4294967296 ^ i * z := Nat.mul_le_mul_left _ h0
    rw [Nat.mul_one] at h3
    exact absurd (Nat.lt_of_lt_of_le h (Nat.le_trans h2 (Nat.le_trans h3 h1))) (Nat.lt_irrefl _)

theorem val_trunc {L : List Nat} {k : Nat} (h : ∀ i z, k ≤ i → L[i]? = some z → z = 0) : val (L.take k) = val L := by
  rcases Nat.lt_or_ge k L.length with hk | hk
  · rw [val_split L k (Nat.le_of_lt hk), val_drop_zero (k := k) (fun j hj hl => by
      have e : L[j]? = some L[j] := List.getElem?_eq_getElem hl
      rw [e, h j _ hj e]), Nat.mul_zero, Nat.add_zero]
  · rw [List.take_of_length_le hk]

theorem val_take_lt {L : List Nat} {k : Nat} (hb : Bd L) : val (L.take k) < 4294967296 ^ k := by
  have h := val_lt (L.take k) (Bd_take hb k)
  have h1 : (L.take k).length ≤ k := by rw [List.length_take]; omega
  exact Nat.lt_of_lt_of_le h (Nat.pow_le_pow_right (by decide) h1)

/-- the outer loop: what is left of the dividend, and the quotient's words from j on -/
def QS (X V j : Nat) (U O : List Nat) : Prop :=
  val U + V * val O = X ∧ val U < V * 4294967296 ^ j ∧ ∀ k, k < j → k < O.length → O[k]? = some 0

theorem QS.start {xs ys U : List Nat} {n m e : Nat} (hU : val U = val xs * e) (hb : Bd xs) (hxl : xs.length = n) (hyl : ys.length = m) (ty : Tr ys) (hm : 1 ≤ m) (hmn : m ≤ n) (he : 1 ≤ e) :
    QS (val xs * e) (val ys * e) (n - m + 1) U (List.replicate (n - m + 1) 0) := by
  refine ⟨by rw [val_zeros, hU]; omega, ?_, fun k _ hk => by rw [List.getElem?_replicate]; simp at hk; simp [hk]⟩
  rw [hU]
  have h1 := val_lt xs hb
  rw [hxl] at h1
  have h2 := ty.low (by intro h; subst h; simp at hyl; omega)
  rw [hyl] at h2
  have h3 : 4294967296 ^ n = 4294967296 ^ (m - 1) * 4294967296 ^ (n - m + 1) := by rw [← Nat.pow_add, show m - 1 + (n - m + 1) = n by omega]
  rw [h3] at h1
  have h4 : 4294967296 ^ (m - 1) * 4294967296 ^ (n - m + 1) ≤ val ys * 4294967296 ^ (n - m + 1) := Nat.mul_le_mul_right _ h2
  have h5 : val xs * e < val ys * 4294967296 ^ (n - m + 1) * e := Nat.mul_lt_mul_of_pos_right (Nat.lt_of_lt_of_le h1 h4) he
  rw [show val ys * e * 4294967296 ^ (n - m + 1) = val ys * 4294967296 ^ (n - m + 1) * e by grind]
  exact h5

/-- the first words of the dividend and of the divisor -/
def VW (V Uh top u2 v1 v2 : Nat) : Prop := ∃ W U3 V3, V = v1 * 4294967296 * W + v2 * W + V3 ∧ Uh = top * 4294967296 * W + u2 * W + U3 ∧ 0 < W ∧ U3 < W ∧ V3 < W ∧ Uh < V * 4294967296 ∧ 0 < v1 ∧ u2 < 4294967296 ∧ v2 < 4294967296

theorem take3 {L : List Nat} {p a b c : Nat} (ha : L[p + 2]? = some a) (hb : L[p + 1]? = some b) (hc : L[p]? = some c) :
    val (L.take (p + 3)) = (a * 4294967296 + b) * 4294967296 * 4294967296 ^ p + c * 4294967296 ^ p + val (L.take p) := by
  rw [val_take_succ _ _ _ ha, val_take_succ _ _ _ hb, val_take_succ _ _ _ hc, Nat.pow_succ, Nat.pow_succ]
  grind

theorem take2 {L : List Nat} {p a b : Nat} (ha : L[p + 1]? = some a) (hb : L[p]? = some b) :
    val (L.take (p + 2)) = a * 4294967296 * 4294967296 ^ p + b * 4294967296 ^ p + val (L.take p) := by
  rw [val_take_succ _ _ _ ha, val_take_succ _ _ _ hb, Nat.pow_succ]
  grind

theorem top_pos {L : List Nat} {m v P : Nat} (hb : Bd L) (hl : L.length = m + 1) (hv : L[m]? = some v) (hP : 4294967296 ^ m ≤ P) (h : P ≤ val L) : 0 < v := by
  rcases Nat.eq_zero_or_pos v with h0 | h0
  · subst h0
    have h1 := val_take_succ L m 0 hv
    rw [List.take_of_length_le (by omega), Nat.mul_zero, Nat.add_zero] at h1
    have h2 := val_take_lt (k := m) hb
    omega
  · exact h0

theorem QS.view {X V j m u0 u1 u2 v1 v2 : Nat} {U O Vl : List Nat} (h : QS X V (j + 1) U O) (hbU : Bd U) (hbV : Bd Vl) (hl : Vl.length = m) (hV : val Vl = V) (h2 : 2 ≤ m) (hlow : 4294967296 ^ (m - 1) ≤ V)
    (hu0 : U[j + m]? = some u0) (hu1 : U[j + m - 1]? = some u1) (hu2 : U[j + m - 2]? = some u2) (hv1 : Vl[m - 1]? = some v1) (hv2 : Vl[m - 2]? = some v2) :
    VW V (val (U.drop j)) (u0 * 4294967296 + u1) u2 v1 v2 := by
  obtain ⟨p, rfl⟩ : ∃ p, m = p + 2 := ⟨m - 2, by omega⟩
  obtain ⟨-, h1, -⟩ := h
  have hj : j ≤ U.length := by have := (List.getElem?_eq_some_iff.1 hu0).1; omega
  have hs := val_split U j hj
  have hUh : val (U.drop j) < V * 4294967296 := by
    rw [Nat.pow_succ, Nat.mul_comm _ 4294967296, ← Nat.mul_assoc] at h1
    have := pw j
    rw [hs] at h1
    have h3 : 4294967296 ^ j * val (U.drop j) < 4294967296 ^ j * (V * 4294967296) := by rw [Nat.mul_comm (4294967296 ^ j) (V * 4294967296)]; omega
    exact Nat.lt_of_mul_lt_mul_left h3
  have hVlt := val_lt Vl hbV
  rw [hl, hV] at hVlt
  have hUp : val (U.drop j) < 4294967296 ^ (p + 3) := by
    rw [Nat.pow_succ]
    exact Nat.lt_of_lt_of_le hUh (Nat.mul_le_mul_right 4294967296 (Nat.le_of_lt hVlt))
  have hd0 : (U.drop j)[p + 2]? = some u0 := by rw [List.getElem?_drop]; exact hu0
  have hd1 : (U.drop j)[p + 1]? = some u1 := by rw [List.getElem?_drop]; rw [show j + (p + 1) = j + (p + 2) - 1 by omega]; exact hu1
  have hd2 : (U.drop j)[p]? = some u2 := by rw [List.getElem?_drop]; rw [show j + p = j + (p + 2) - 2 by omega]; exact hu2
  have ht := take3 hd0 hd1 hd2
  rw [val_trunc (k := p + 3) (fun i z hi hz => val_small hUp hi hz)] at ht
  have hw := take2 hv1 hv2
  rw [List.take_of_length_le (by omega), hV] at hw
  refine ⟨4294967296 ^ p, val ((U.drop j).take p), val (Vl.take p), hw, ht, pw p, val_take_lt (Bd_drop hbU j), val_take_lt hbV, hUh, top_pos hbV hl hv1 hlow (by omega), ?_, ?_⟩
  · exact hbU _ (List.mem_of_getElem? hu2)
  · exact hbV _ (List.mem_of_getElem? hv2)

/-- the guess is the true word, or one more -/
def GQ (V Uh q : Nat) : Prop := Uh / V ≤ q ∧ q ≤ Uh / V + 1 ∧ q < 4294967296

section
variable {V Uh top u2 v1 v2 q r : Nat}
theorem VW.init (h : VW V Uh top u2 v1 v2) : Qh V Uh top v1 (top / v1) (top % v1) := by
  obtain ⟨W, U3, V3, hV, hU, hW, hU3, hV3, hlt, h1, hu, hv⟩ := h
  exact Qh.init hV hU h1 hW hu hU3
theorem VW.pos (h : VW V Uh top u2 v1 v2) : 0 < V := by
  obtain ⟨W, U3, V3, hV, hU, hW, hU3, hV3, hlt, h1, hu, hv⟩ := h
  rcases Nat.eq_zero_or_pos V with h0 | h0
  · rw [h0] at hlt; omega
  · exact h0
theorem VW.dec1 (h : VW V Uh top u2 v1 v2) (hq : Qh V Uh top v1 q r) (hc : 4294967296 ≤ q) : Qh V Uh top v1 (q - 1) (r + v1) := by
  obtain ⟨W, U3, V3, hV, hU, hW, hU3, hV3, hlt, h1, hu, hv⟩ := h
  exact hq.dec1 hlt hc
theorem VW.dec2 (h : VW V Uh top u2 v1 v2) (hq : Qh V Uh top v1 q r) (hc : r * 4294967296 + u2 < q * v2) : Qh V Uh top v1 (q - 1) (r + v1) := by
  have h0 := h.pos
  obtain ⟨W, U3, V3, hV, hU, hW, hU3, hV3, hlt, h1, hu, hv⟩ := h
  exact hq.dec2 hV hU hU3 h0 hc
theorem VW.exit (h : VW V Uh top u2 v1 v2) (hq : Qh V Uh top v1 q r) (h1 : q < 4294967296) (h2 : q * v2 ≤ r * 4294967296 + u2) : GQ V Uh q := by
  obtain ⟨W, U3, V3, hV, hU, hW, hU3, hV3, hlt, h1', hu, hv⟩ := h
  exact ⟨hq.2, hq.exit hV hU h1' hV3 h1 h2, h1⟩
theorem VW.top_le (h : VW V Uh top u2 v1 v2) : top ≤ v1 * 4294967296 + 4294967295 := by
  obtain ⟨W, U3, V3, hV, hU, hW, hU3, hV3, hlt, h1, hu, hv⟩ := h
  have e1 : top * (4294967296 * W) < (v1 + 1) * 4294967296 * (4294967296 * W) := by
    have e2 : V < (v1 + 1) * 4294967296 * W := by
      have : v2 * W ≤ 4294967295 * W := Nat.mul_le_mul_right _ (by omega)
      have e3 : (v1 + 1) * 4294967296 * W = v1 * 4294967296 * W + 4294967296 * W := by grind
      omega
    have e4 : top * (4294967296 * W) = top * 4294967296 * W := by grind
    have e5 : (v1 + 1) * 4294967296 * (4294967296 * W) = (v1 + 1) * 4294967296 * W * 4294967296 := by grind
    omega
  have := Nat.lt_of_mul_lt_mul_right e1
  omega
theorem VW.brk (h : VW V Uh top u2 v1 v2) (hq : Qh V Uh top v1 q r) (hr : 4294967296 ≤ r) : GQ V Uh q := by
  have ht := h.top_le
  have hh := h
  obtain ⟨W, U3, V3, hV, hU, hW, hU3, hV3, hlt, h1', hu, hv⟩ := h
  obtain ⟨h1, h2⟩ := hq.brk (U1 := u2) ht hr h1' hv
  exact hh.exit hq h1 h2
end

theorem MS.fin {U L Vl : List Nat} {j q m bw cy u t bw' V : Nat} (h : MS U L j q Vl m bw cy) (hl : Vl.length = m) (hV : val Vl = V) (hu : L[j + m]? = some u) (ht : t + bw + cy = u + 4294967296 * bw') :
    val (L.set (j + m) t) + 4294967296 ^ j * (q * V) = val U + 4294967296 ^ (j + m + 1) * bw' := by
  have h1 := h.1
  rw [List.take_of_length_le (by omega), hV] at h1
  have h2 := val_set L (j + m) u t hu
  rw [Nat.pow_succ]
  generalize 4294967296 ^ (j + m) = P at *
  have e1 : P * (t + bw + cy) = P * (u + 4294967296 * bw') := by rw [ht]
  grind

theorem done_alg {P Q V R Uh low U O O' L X q : Nat} (hX : U + V * O = X) (hU : U = low + P * Uh) (hlow : low < P) (hq : q = Q) (hdm : V * Q + R = Uh) (hR : R < V) (hL : L = low + P * R) (hO : O' = O + P * q) :
    L + V * O' = X ∧ L < V * P := by
  refine ⟨by subst hq hL hO hdm; grind, ?_⟩
  have : P * (R + 1) ≤ P * V := Nat.mul_le_mul_left _ hR
  rw [Nat.mul_comm V P]
  have e : P * (R + 1) = P * R + P := by grind
  omega

theorem QS.done {X V j q : Nat} {U O L : List Nat} (h : QS X V (j + 1) U O) (hbU : Bd U) (hjU : j ≤ U.length) (hjO : j < O.length) (hq : q = val (U.drop j) / V) (hV : 0 < V)
    (hL : val L = val (U.take j) + 4294967296 ^ j * (val (U.drop j) % V)) : QS X V j L (O.set j q) := by
  obtain ⟨h1, h2, h3⟩ := h
  have hO := val_set O j 0 q (h3 j (by omega) hjO)
  rw [Nat.mul_zero, Nat.add_zero] at hO
  obtain ⟨e1, e2⟩ := done_alg h1 (val_split U j hjU) (val_take_lt hbU) hq (Nat.div_add_mod _ V) (Nat.mod_lt _ hV) hL hO
  exact ⟨e1, e2, fun k hk hl => by rw [List.getElem?_set_ne (by omega)]; exact h3 k (by omega) (by simpa using hl)⟩

theorem fit_alg {P low Uh qV L : Nat} (hlow : low < P) (h : L + P * qV = low + P * Uh) : qV ≤ Uh := by
  have h1 : P * qV < P * (Uh + 1) := by
    have e : P * (Uh + 1) = P * Uh + P := by grind
    omega
  have := Nat.lt_of_mul_lt_mul_left h1
  omega

theorem MS.done0 {X V j q m : Nat} {U O L : List Nat} (h : QS X V (j + 1) U O) (hg : GQ V (val (U.drop j)) q) (hbU : Bd U) (hjU : j ≤ U.length) (hjO : j < O.length) (hV : 0 < V)
    (hL : val L + 4294967296 ^ j * (q * V) = val U + 4294967296 ^ (j + m + 1) * 0) : QS X V j L (O.set j q) := by
  have hs := val_split U j hjU
  rw [Nat.mul_zero, Nat.add_zero, hs] at hL
  have hq1 := fit_alg (val_take_lt hbU) hL
  have hq2 := (Nat.le_div_iff_mul_le hV).2 hq1
  have hq : q = val (U.drop j) / V := Nat.le_antisymm hq2 hg.1
  refine h.done hbU hjU hjO hq hV ?_
  have hd := Nat.div_add_mod (val (U.drop j)) V
  rw [← hq] at hd
  have e : 4294967296 ^ j * val (U.drop j) = 4294967296 ^ j * (q * V) + 4294967296 ^ j * (val (U.drop j) % V) := by
    rw [← Nat.mul_add, Nat.mul_comm q V, hd]
  omega

/-- words from k on are nought -/
theorem hi_lt {L U : List Nat} {k : Nat} (hb : Bd L) (h : ∀ i, k ≤ i → L[i]? = U[i]?) (hU : val U < 4294967296 ^ k) : val L < 4294967296 ^ k := by
  rw [← val_trunc (k := k) (fun i z hi hz => val_small hU hi (by rw [← h i hi]; exact hz))]
  exact val_take_lt hb

theorem big_alg {P M low Uh q V L : Nat} (hL : L < M) (h : L + P * (q * V) = low + P * Uh + M) : Uh < q * V := by
  have : P * Uh < P * (q * V) := by omega
  exact Nat.lt_of_mul_lt_mul_left this

theorem back_alg {P M low Uh Q R V L L3 c' : Nat} (hlow : low < P) (h : L + P * ((Q + 1) * V) = low + P * Uh + M) (hb : L3 + M * c' = L + P * V) (hd : V * Q + R = Uh) (hR : R < V) (hM : P * V ≤ M) (hL3 : L3 < M) :
    L3 = low + P * R := by
  have e1 : L3 + M * c' = low + P * R + M := by subst hd; grind
  have e2 : P * (R + 1) ≤ P * V := Nat.mul_le_mul_left _ hR
  have e3 : P * (R + 1) = P * R + P := by grind
  rcases c' with _ | _ | c
  · omega
  · omega
  · have : M * (c + 1 + 1) = M * c + M + M := by grind
    omega

theorem AB.done1 {X V j q m c u s c' : Nat} {U O L Vl L2 : List Nat} (h : QS X V (j + 1) U O) (hg : GQ V (val (U.drop j)) q) (hbU : Bd U) (hbV : Bd Vl) (hbL : Bd L) (hjU : j ≤ U.length) (hjO : j < O.length) (hV : 0 < V) (hVl : val Vl = V) (hlV : Vl.length = m)
    (hL : val L + 4294967296 ^ j * (q * V) = val U + 4294967296 ^ (j + m + 1) * 1) (hhi : ∀ i, j + m + 1 ≤ i → L[i]? = U[i]?) (hA : AB L L2 j Vl m c) (hu : L2[j + m]? = some u) (hs : 4294967296 * c' + s = u + c) (hb3 : Bd (L2.set (j + m) s)) :
    QS X V j (L2.set (j + m) s) (O.set j (q - 1)) := by
  have hVlt := val_lt Vl hbV
  rw [hlV, hVl] at hVlt
  have hUlt : val U < 4294967296 ^ (j + m + 1) := by
    have h1 := h.2.1
    have : V * 4294967296 ^ (j + 1) ≤ 4294967296 ^ m * 4294967296 ^ (j + 1) := Nat.mul_le_mul_right _ (Nat.le_of_lt hVlt)
    rw [← Nat.pow_add, show m + (j + 1) = j + m + 1 by omega] at this
    omega
  have hLlt := hi_lt hbL hhi hUlt
  have hsp := val_split U j hjU
  rw [Nat.mul_one, hsp] at hL
  have hq1 := big_alg hLlt hL
  have hq2 : val (U.drop j) / V < q := Nat.div_lt_of_lt_mul (by rw [Nat.mul_comm]; exact hq1)
  have hq : q = val (U.drop j) / V + 1 := by have := hg.2.1; omega
  refine h.done hbU hjU hjO (by rw [hq, Nat.add_sub_cancel]) hV ?_
  have h3 := hA.1
  rw [List.take_of_length_le (by omega), hVl] at h3
  have h4 := val_set L2 (j + m) u s hu
  have hM : 4294967296 ^ j * V ≤ 4294967296 ^ (j + m + 1) := by
    have : 4294967296 ^ j * V ≤ 4294967296 ^ j * 4294967296 ^ m := Nat.mul_le_mul_left _ (Nat.le_of_lt hVlt)
    rw [← Nat.pow_add] at this
    exact Nat.le_trans this (Nat.pow_le_pow_right (by decide) (by omega))
  have hL3 : val (L2.set (j + m) s) < 4294967296 ^ (j + m + 1) := hi_lt hb3 (fun i hi => by rw [List.getElem?_set_ne (by omega), hA.2.2 i (by omega)]; exact hhi i hi) hUlt
  have hb : val (L2.set (j + m) s) + 4294967296 ^ (j + m + 1) * c' = val L + 4294967296 ^ j * V := by
    rw [Nat.pow_succ]
    generalize 4294967296 ^ (j + m) = P at *
    have e1 : P * (4294967296 * c' + s) = P * (u + c) := by rw [hs]
    grind
  rw [hq] at hL
  exact back_alg (val_take_lt hbU) hL hb (Nat.div_add_mod _ V) (Nat.mod_lt _ hV) hM hL3

theorem MS.qpos {X V j q m : Nat} {U O L Vl : List Nat} (h : QS X V (j + 1) U O) (hbV : Bd Vl) (hbL : Bd L) (hjU : j ≤ U.length) (hVl : val Vl = V) (hlV : Vl.length = m)
    (hL : val L + 4294967296 ^ j * (q * V) = val U + 4294967296 ^ (j + m + 1) * 1) (hhi : ∀ i, j + m + 1 ≤ i → L[i]? = U[i]?) : 0 < q := by
  have hVlt := val_lt Vl hbV
  rw [hlV, hVl] at hVlt
  have hUlt : val U < 4294967296 ^ (j + m + 1) := by
    have h1 := h.2.1
    have : V * 4294967296 ^ (j + 1) ≤ 4294967296 ^ m * 4294967296 ^ (j + 1) := Nat.mul_le_mul_right _ (Nat.le_of_lt hVlt)
    rw [← Nat.pow_add, show m + (j + 1) = j + m + 1 by omega] at this
    omega
  have hLlt := hi_lt hbL hhi hUlt
  have hsp := val_split U j hjU
  rw [Nat.mul_one, hsp] at hL
  have hq1 := big_alg hLlt hL
  rcases Nat.eq_zero_or_pos q with h0 | h0
  · rw [h0, Nat.zero_mul] at hq1
    exact absurd hq1 (Nat.not_lt_zero _)
  · exact h0

/-- the rest: words below i are shifted back -/
def RS (U R : List Nat) (e i : Nat) : Prop := ∃ x, U[i]? = some x ∧ val (R.take i) * e = val (U.take i) + 4294967296 ^ i * (x % e)

theorem RS.start {xs ys U O : List Nat} {V X e u0 s f : Nat} (R : List Nat) (h : QS X V 0 U O) (hX : X = val xs * e) (hV : V = val ys * e) (hE : ShE s e f) (h0 : U[0]? = some u0) : RS U R e 0 := by
  refine ⟨u0, h0, ?_⟩
  have h1 := h.1
  have hd := val_drop_at h0
  rw [List.drop_zero] at hd
  have h2 : e ∣ val U := by
    have e1 : e ∣ val U + V * val O := by rw [h1, hX]; exact Nat.dvd_mul_left _ _
    exact (Nat.dvd_add_left (by rw [hV, Nat.mul_assoc, Nat.mul_comm, Nat.mul_assoc]; exact Nat.dvd_mul_right _ _)).1 e1
  have h3 : e ∣ 4294967296 * val (U.drop (0 + 1)) := by
    rw [← hE.2, Nat.mul_assoc]; exact Nat.dvd_mul_right _ _
  rw [hd] at h2
  have h4 : e ∣ u0 := (Nat.dvd_add_left h3).1 h2
  simp [val, Nat.mod_eq_zero_of_dvd h4]

theorem RS.step {U R : List Nat} {e f s i x y : Nat} (h : RS U R e i) (hE : ShE s e f) (hx : U[i]? = some x) (hy : U[i + 1]? = some y) (hR : i < R.length) : RS U (R.set i (x / e + (y * f) % 4294967296)) e (i + 1) := by
  obtain ⟨x', hx', h1⟩ := h
  rw [hx] at hx'
  obtain rfl : x = x' := by injection hx'
  refine ⟨y, hy, ?_⟩
  rw [take_set_succ hR, val_take_succ _ _ _ hx, Nat.pow_succ]
  have e1 : (y * f) % 4294967296 = f * (y % e) := by rw [← hE.2, Nat.mul_comm y f, Nat.mul_comm e f, Nat.mul_mod_mul_left]
  have e2 := Nat.div_add_mod x e
  have e3 : f * (y % e) * e = 4294967296 * (y % e) := by rw [← hE.2]; grind
  rw [e1]
  have e4 : (x / e + f * (y % e)) * e + x % e = x + 4294967296 * (y % e) := by rw [Nat.add_mul, e3, Nat.mul_comm (x / e) e]; omega
  generalize 4294967296 ^ i = P at *
  have e5 : P * ((x / e + f * (y % e)) * e + x % e) = P * (x + 4294967296 * (y % e)) := by rw [e4]
  grind

theorem RS.last {xs ys U O R : List Nat} {V X e m : Nat} (h : RS U R e m) (hq : QS X V 0 U O) (hX : X = val xs * e) (hV : V = val ys * e) (hVm : V < 4294967296 ^ m) (hR : R.length = m) (he : 1 ≤ e) :
    val xs = val ys * val O + val R ∧ val R < val ys := by
  obtain ⟨x, hx, h1⟩ := h
  obtain ⟨h2, h3, -⟩ := hq
  rw [Nat.pow_zero, Nat.mul_one] at h3
  have hx0 := val_small (Nat.lt_trans h3 hVm) (Nat.le_refl _) hx
  rw [hx0, Nat.zero_mod, Nat.mul_zero, Nat.add_zero, List.take_of_length_le (by omega), val_trunc (fun i z hi hz => val_small (Nat.lt_trans h3 hVm) hi hz)] at h1
  rw [← h1, hX, hV] at h2
  rw [← h1, hV] at h3
  refine ⟨Nat.eq_of_mul_eq_mul_right he (by rw [← h2]; grind), Nat.lt_of_mul_lt_mul_right h3⟩

theorem or_sh2 {s e f x y : Nat} (h : ShE s e f) (hs : s ≤ 32) (hf : 1 ≤ f) (he : 1 ≤ e) (hp : x < 4294967296) : bits .or .u32 ((x / e : Nat) : Int) (((y * f) % 4294967296 : Nat) : Int) = ((x / e + (y * f) % 4294967296 : Nat) : Int) ∧ x / e + (y * f) % 4294967296 < 4294967296 := by
  obtain ⟨h1, h2⟩ := h
  have e1 : (y * f) % 4294967296 = f * (y % e) := by rw [← h2, Nat.mul_comm y f, Nat.mul_comm e f, Nat.mul_mod_mul_left]
  have e3 : x / e < f := Nat.div_lt_of_lt_mul (by rw [h2]; exact hp)
  have e4 : f * (y % e) + f ≤ 4294967296 := by
    have : f * (y % e + 1) ≤ f * e := Nat.mul_le_mul_left _ (Nat.mod_lt _ (by omega))
    rw [Nat.mul_add, Nat.mul_comm f e, h2] at this
    omega
  rw [e1]
  refine ⟨?_, by omega⟩
  have hf2 : f = 2 ^ (32 - s) := by
    have : 2 ^ s * f = 2 ^ s * 2 ^ (32 - s) := by rw [← h1, h2, h1, ← Nat.pow_add, show s + (32 - s) = 32 by omega]
    exact Nat.eq_of_mul_eq_mul_left (Nat.two_pow_pos s) this
  have e5 : f * (y % e) ||| x / e = f * (y % e) + x / e := by
    rw [hf2] at e3 ⊢
    rw [Nat.two_pow_add_eq_or_of_lt e3]
  rw [u32_or_nat _ _ (by omega) (by omega), Nat.or_comm, e5, Nat.add_comm]

end Go.Proofs.Ytgoojlnfobjplaa
