/- Plain laws: one word written in a row of words; the product, word by word. -/
import Derived.Test.YtgoojlnfobjplaaZp
namespace Go.Proofs.Ytgoojlnfobjplaa
open Go.RowKit
set_option linter.unusedSimpArgs false
set_option linter.unusedVariables false

theorem Bd_set {L : List Nat} (h : Bd L) {k t : Nat} (ht : t < 4294967296) : Bd (L.set k t) := by
  intro y hy
  rcases List.mem_or_eq_of_mem_set hy with h1 | h1
  · exact h y h1
  · omega

theorem Bd_zeros (n : Nat) : Bd (List.replicate n 0) := by
  intro y hy
  have := List.eq_of_mem_replicate hy
  omega
theorem val_zeros (n : Nat) : val (List.replicate n 0) = 0 := by
  induction n with
  | zero => rfl
  | succ n ih => simp [List.replicate_succ, val, ih]

theorem val_set : ∀ (L : List Nat) (k o t : Nat), L[k]? = some o → val (L.set k t) + 4294967296 ^ k * o = val L + 4294967296 ^ k * t
  | [], k, o, t, h => by simp at h
  | x :: r, 0, o, t, h => by
    simp at h
    subst h
    simp only [List.set_cons_zero, val, Nat.pow_zero]
    omega
  | x :: r, k + 1, o, t, h => by
    simp at h
    have ih := val_set r k o t h
    simp only [List.set_cons_succ, val, Nat.pow_succ]
    have e1 : 4294967296 ^ k * 4294967296 * o = 4294967296 * (4294967296 ^ k * o) := by grind
    have e2 : 4294967296 ^ k * 4294967296 * t = 4294967296 * (4294967296 ^ k * t) := by grind
    rw [e1, e2]
    omega

theorem val_drop_zero {L : List Nat} {k : Nat} (h : ∀ j, k ≤ j → j < L.length → L[j]? = some 0) : val (L.drop k) = 0 := by
  have : L.drop k = List.replicate (L.length - k) 0 := by
    apply List.ext_getElem?
    intro j
    rw [List.getElem?_drop, List.getElem?_replicate]
    split
    · exact h _ (by omega) (by omega)
    · exact List.getElem?_eq_none (by omega)
  rw [this, val_zeros]

theorem made_zeros (N : Nat) : (madeCells (Value.int .u32 0).cells (N * 1)).toList = vs (List.replicate N 0) := by
  rw [Nat.mul_one]
  show (madeCells #[Value.int .u32 0] N).toList = _
  rw [toList_madeCells_one]
  simp [vs]

/-- how the words of a row of the call's own are written and read -/
theorem vs_set (L : List Nat) (k t : Nat) (i : Int) (h : (t : Int) = i) : (vs L).set k (.int .u32 i) = vs (L.set k t) := by
  subst h
  simp [vs, List.map_set]

theorem row_cell {w : World} {base g n c : Nat} {L : List Nat} {e : TypeId} (h : w.ownsRow base e 1 (.slice (some ⟨g, 0, none⟩) n c) n (vs L)) {k : Nat} (hk : k < n) : ∃ t, L[k]? = some t ∧ w.cell? ⟨g, k, none⟩ = some (.int .u32 (t : Int)) := by
  have hl := own_len h
  have hkl : k < L.length := by omega
  refine ⟨L[k], List.getElem?_eq_getElem hkl, ?_⟩
  rw [h.cellAt k (by omega)]
  exact vs_get _ _ _ (List.getElem?_eq_getElem hkl)

theorem row_set {w : World} {base g n c : Nat} {L : List Nat} {e : TypeId} (h : w.ownsRow base e 1 (.slice (some ⟨g, 0, none⟩) n c) n (vs L)) (k t : Nat) {i : Int} (hi : (t : Int) = i) :
    (w.setCell ⟨g, k, none⟩ (.int .u32 i)).ownsRow base e 1 (.slice (some ⟨g, 0, none⟩) n c) n (vs (L.set k t)) := by
  have := (h.stored k (.int .u32 i)).1
  rwa [vs_set L k t i hi] at this

theorem row_drewN {w : World} {base : Nat} {e : TypeId} {v : Value} {n : Nat} {xs : List Value} (h : w.ownsRow base e 1 v n xs) (k : Nat) : (w.drewN k).ownsRow base e 1 v n xs := h

/-- the state of the product's row in the inner loop: L0 the row when round i began, after j words the carry c -/
def MulIn (L0 L : List Nat) (i x : Nat) (ys : List Nat) (j c : Nat) : Prop :=
  val L + 4294967296 ^ (i + j) * c = val L0 + 4294967296 ^ i * (x * val (ys.take j)) ∧ L.length = L0.length ∧ ∀ k, i + j ≤ k → L[k]? = L0[k]?

theorem MulIn.start (L0 : List Nat) (i x : Nat) (ys : List Nat) : MulIn L0 L0 i x ys 0 0 := ⟨by simp [val], rfl, fun _ _ => rfl⟩

theorem mul_alg {P Q vL' o vL r c vL0 x vt q y : Nat} (e : vL' + P * Q * o = vL + P * Q * r) (h1 : vL + P * Q * c = vL0 + P * (x * vt)) (e2 : 4294967296 * q + r = o + x * y + c) :
    vL' + P * Q * 4294967296 * q = vL0 + P * (x * (vt + Q * y)) := by
  have e4 : P * Q * (4294967296 * q + r) = P * Q * (o + x * y + c) := by rw [e2]
  grind

theorem MulIn.step {L0 L : List Nat} {i x j c o y : Nat} {ys : List Nat} (h : MulIn L0 L i x ys j c) (ho : L[i + j]? = some o) (hy : ys[j]? = some y) :
    MulIn L0 (L.set (i + j) ((o + x * y + c) % 4294967296)) i x ys (j + 1) ((o + x * y + c) / 4294967296) := by
  obtain ⟨h1, h2, h3⟩ := h
  refine ⟨?_, by simpa using h2, fun k hk => ?_⟩
  · have e := val_set L (i + j) o ((o + x * y + c) % 4294967296) ho
    rw [val_take_succ ys j y hy, show i + (j + 1) = (i + j) + 1 by omega, Nat.pow_succ]
    rw [Nat.pow_add] at *
    exact mul_alg e h1 (Nat.div_add_mod (o + x * y + c) 4294967296)
  · rw [List.getElem?_set_ne (by omega)]
    exact h3 k (by omega)

theorem carry_bd {o x y c : Nat} (ho : o < 4294967296) (hx : x < 4294967296) (hy : y < 4294967296) (hc : c < 4294967296) : o + x * y + c < 18446744073709551616 := by
  have : x * y ≤ 4294967295 * 4294967295 := Nat.mul_le_mul (by omega) (by omega)
  omega

theorem mul_alg2 {P Q vL' vL c vL0 x vy vt : Nat} (e : vL' + Q * 0 = vL + Q * c) (i1 : vL + Q * c = vL0 + P * (x * vy)) (h1 : vL0 = vt * vy) : vL' = (vt + P * x) * vy := by
  grind

/-- the state of the product's row in the outer loop -/
def MulOut (L : List Nat) (xs ys : List Nat) (i : Nat) : Prop :=
  val L = val (xs.take i) * val ys ∧ L.length = xs.length + ys.length ∧ ∀ k, i + ys.length ≤ k → k < L.length → L[k]? = some 0

theorem MulOut.start (xs ys : List Nat) : MulOut (List.replicate (xs.length + ys.length) 0) xs ys 0 :=
  ⟨by simp [val_zeros, val], by simp, fun k _ hk => by rw [List.getElem?_replicate]; simp at hk; simp [hk]⟩

theorem MulOut.step {L0 L : List Nat} {xs ys : List Nat} {i x c : Nat} (h : MulOut L0 xs ys i) (hx : xs[i]? = some x) (hi : MulIn L0 L i x ys ys.length c) :
    MulOut (L.set (i + ys.length) c) xs ys (i + 1) := by
  obtain ⟨h1, h2, h3⟩ := h
  obtain ⟨i1, i2, i3⟩ := hi
  have hl : i < xs.length := (List.getElem?_eq_some_iff.1 hx).1
  have ho : L[i + ys.length]? = some 0 := by rw [i3 _ (Nat.le_refl _)]; exact h3 _ (Nat.le_refl _) (by omega)
  refine ⟨?_, by rw [List.length_set]; omega, fun k hk hkl => ?_⟩
  · have e := val_set L (i + ys.length) 0 c ho
    rw [val_take_succ xs i x hx]
    rw [List.take_of_length_le (Nat.le_refl _)] at i1
    exact mul_alg2 e i1 h1
  · rw [List.getElem?_set_ne (by omega), i3 _ (by omega)]
    rw [List.length_set] at hkl
    exact h3 _ (by omega) (by omega)

end Go.Proofs.Ytgoojlnfobjplaa
