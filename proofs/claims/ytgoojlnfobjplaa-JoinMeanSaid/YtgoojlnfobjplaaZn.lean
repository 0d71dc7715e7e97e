/- More plain laws and words for the walks over num. -/
import Derived.Test.YtgoojlnfobjplaaZm
namespace Go.Proofs.Ytgoojlnfobjplaa
open Go.RowKit
set_option linter.unusedSimpArgs false
set_option linter.unusedVariables false

def lenOf : Value → Nat | .slice _ n _ => n | _ => 0

theorem trim_step {xs : List Nat} {k : Nat} (h0 : 0 < k) (h : xs[k - 1]? = some 0) (hv : Hid (val (xs.take k) = val xs)) : Hid (val (xs.take (k - 1)) = val xs) := by
  obtain ⟨j, rfl⟩ : ∃ j, k = j + 1 := ⟨k - 1, by omega⟩
  have hv := hv.out
  have := val_take_succ xs j 0 (by simpa using h)
  show _ = _
  rw [Nat.add_sub_cancel]
  omega

theorem trim_stop {xs : List Nat} {k x : Nat} (h0 : 0 < k) (h : xs[k - 1]? = some x) (hx : x ≠ 0) : Tr (xs.take k) := by
  obtain ⟨j, rfl⟩ : ∃ j, k = j + 1 := ⟨k - 1, by omega⟩
  rw [Nat.add_sub_cancel] at h
  unfold Tr
  rw [List.take_add_one, h]
  simpa using hx

theorem or_words (a b : Nat) (ha : a < 4294967296) (hb : b < 4294967296) : bits .or .u64 (IntKind.u64.wrap ((a : Int) * 4294967296)) (b : Int) = ((b + 4294967296 * a : Nat) : Int) := by
  have e : IntKind.u64.wrap ((a : Int) * 4294967296) = ((2 ^ 32 * a : Nat) : Int) := by
    rw [IntKind.wrap_u64]
    omega
  rw [e, u64_or_nat _ _ (by omega) (by omega), ← Nat.two_pow_add_eq_or_of_lt (by simpa using hb)]
  congr 1
  omega

theorem or_step {ys : List Nat} {i x : Nat} (hb : Bd ys) (h : ys[i]? = some x) (hl : ys.length ≤ 2) :
    bits .or .u64 (IntKind.u64.wrap (((val (ys.drop (i + 1)) : Nat) : Int) * 4294967296)) (x : Int) = ((val (ys.drop i) : Nat) : Int) := by
  have l1 : i < ys.length := (List.getElem?_eq_some_iff.1 h).1
  have e : ys.drop i = x :: ys.drop (i + 1) := by
    rw [List.drop_eq_getElem_cons l1]
    congr 1
    rw [List.getElem?_eq_getElem l1] at h
    injection h
  have hx : x < 4294967296 := hb x (List.mem_of_getElem? h)
  have hv := val_lt (ys.drop (i + 1)) (Bd_drop hb _)
  have hl2 : (ys.drop (i + 1)).length ≤ 1 := by rw [List.length_drop]; omega
  have h3 : (4294967296 : Nat) ^ (ys.drop (i + 1)).length ≤ 4294967296 ^ 1 := Nat.pow_le_pow_right (by omega) hl2
  rw [e, or_words _ _ (by omega) hx]
  rfl

theorem i64_small (V : Nat) (h : V < 9223372036854775808) : IntKind.i64.wrap (V : Int) = V := by rw [IntKind.wrap_i64]; omega
theorem i64_small_neg (V : Nat) (h : V < 9223372036854775808) : IntKind.i64.wrap (-(V : Int)) = -(V : Int) := by rw [IntKind.wrap_i64]; omega
theorem In64_of (V : Nat) (h : V < 9223372036854775808) : In64 (V : Int) ∧ In64 (-(V : Int)) := by unfold In64; omega

theorem Tr.big {xs : List Nat} (h : Tr xs) (hl : 2 < xs.length) : 9223372036854775808 ≤ val xs := by
  have h1 := h.low (by intro e; subst e; simp at hl)
  have h2 : (4294967296 : Nat) ^ 2 ≤ 4294967296 ^ (xs.length - 1) := Nat.pow_le_pow_right (by omega) (by omega)
  omega

theorem U32.take {w : World} {A n c xs} (h : U32 w A n c xs) {k : Nat} (hk : k ≤ n) : U32 w A k c (xs.take k) := by
  obtain ⟨h1, h2, h3, h4, h5⟩ := h
  refine ⟨by rw [List.length_take]; omega, Bd_take h2 k, by omega, h4, ?_⟩
  rcases h5 with h5 | ⟨g, o, rfl, hg, hc⟩
  · exact .inl h5
  · refine .inr ⟨g, o, rfl, hg, fun j u hu => hc j u ?_⟩
    rw [List.getElem?_take] at hu
    split at hu
    · exact hu
    · cases hu

theorem ZR.small {w : World} {v V : Int} (h : v = V) (h64 : In64 V) : ZR w ⟨V, none, 0, 0, false⟩ v := by subst h; exact .inl ⟨rfl, h64⟩
theorem ZR.large {w : World} {A : Option Addr} {l c : Nat} {s : Bool} {xs : List Nat} {v : Int} (h : U32 w A l c xs) (ht : Tr xs) (hv : 9223372036854775808 ≤ val xs) (hs : v = if s then -(val xs : Int) else (val xs : Int)) : ZR w ⟨0, A, l, c, s⟩ v :=
  .inr ⟨xs, rfl, h, ht, hv, hs⟩

/-- at most so many words -/
def lim : Nat := 300000
structure Fit (n : Int) : Prop where
  lt : n.natAbs < 4294967296 ^ lim

theorem len_of_lt {xs : List Nat} {k : Nat} (h : Tr xs) (hv : val xs < 4294967296 ^ k) : xs.length ≤ k := by
  rcases Nat.lt_or_ge k xs.length with hlt | hge
  · exfalso
    have h1 := h.low (by intro e; subst e; simp at hlt)
    have h2 : (4294967296 : Nat) ^ k ≤ 4294967296 ^ (xs.length - 1) := Nat.pow_le_pow_right (by omega) (by omega)
    omega
  · exact hge

theorem Fit.len {w : World} {A l c xs} {n : Int} (hf : Fit n) (h : U32 w A l c xs) (ht : Tr xs) (hv : val xs = n.natAbs) : l ≤ 300000 := by
  have := len_of_lt (k := lim) ht (by rw [hv]; exact hf.lt)
  rw [h.1] at this
  exact this

theorem Fit.neg {n : Int} (h : Fit n) : Fit (-n) := ⟨by rw [Int.natAbs_neg]; exact h.lt⟩

end Go.Proofs.Ytgoojlnfobjplaa
