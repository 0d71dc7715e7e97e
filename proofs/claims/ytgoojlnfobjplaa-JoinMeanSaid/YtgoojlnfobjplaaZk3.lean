/- The quotient of words: by one word. -/
import Derived.Test.YtgoojlnfobjplaaZk2
namespace Go.Proofs.Ytgoojlnfobjplaa
open Go.RowKit
set_option linter.unusedSimpArgs false
set_option linter.unusedVariables false
attribute [local go_sem] qn30 qe30

theorem val_drop_set {L : List Nat} {k t : Nat} (hl : k < L.length) : val ((L.set k t).drop k) = t + 4294967296 * val (L.drop (k + 1)) := by
  have h1 : k < (L.set k t).length := by rw [List.length_set]; exact hl
  rw [List.drop_eq_getElem_cons h1]
  simp only [val, List.getElem_set_self]
  rw [List.drop_set, if_pos (by omega)]

theorem val_drop_at {L : List Nat} {k x : Nat} (hx : L[k]? = some x) : val (L.drop k) = x + 4294967296 * val (L.drop (k + 1)) := by
  have hl : k < L.length := (List.getElem?_eq_some_iff.1 hx).1
  rw [List.drop_eq_getElem_cons hl]
  rw [List.getElem?_eq_getElem hl] at hx
  injection hx with hx
  rw [hx]
  rfl

/-- after the words from k on: the quotient's words L, the rest r -/
def DV (xs L : List Nat) (y k r : Nat) : Prop := val (xs.drop k) = val (L.drop k) * y + r ∧ r < y ∧ L.length = xs.length

theorem DV.start {xs : List Nat} {y n : Nat} (hn : xs.length = n) (hy : 0 < y) : DV xs (List.replicate n 0) y n 0 := by
  refine ⟨?_, hy, by simp [hn]⟩
  rw [List.drop_of_length_le (by omega), List.drop_of_length_le (by simp)]
  simp [val]

theorem DV.step {xs L : List Nat} {y k r x : Nat} (h : DV xs L y (k + 1) r) (hx : xs[k]? = some x) : DV xs (L.set k ((r * 4294967296 + x) / y)) y k ((r * 4294967296 + x) % y) := by
  obtain ⟨h1, h2, h3⟩ := h
  have hl : k < xs.length := (List.getElem?_eq_some_iff.1 hx).1
  refine ⟨?_, Nat.mod_lt _ (by omega), by simpa using h3⟩
  rw [val_drop_at hx, val_drop_set (by omega), h1]
  have e := Nat.div_add_mod (r * 4294967296 + x) y
  generalize (r * 4294967296 + x) / y = q at *
  generalize (r * 4294967296 + x) % y = p at *
  grind

theorem dv_lt {r x y : Nat} (hr : r < y) (hx : x < 4294967296) : (r * 4294967296 + x) / y < 4294967296 := by
  apply Nat.div_lt_of_lt_mul
  have : (r + 1) * 4294967296 ≤ y * 4294967296 := Nat.mul_le_mul_right _ hr
  omega

theorem tdivN (s y : Nat) : (s : Int).tdiv y = ((s / y : Nat) : Int) := by
  rw [Int.tdiv_eq_ediv_of_nonneg (by omega)]
  rfl
theorem tmodN (s y : Nat) : (s : Int).tmod y = ((s % y : Nat) : Int) := by
  rw [Int.tmod_eq_emod_of_nonneg (by omega)]
  rfl
theorem or_shl {r x : Nat} (hr : r < 4294967296) (hx : x < 4294967296) : bits .or .u64 (IntKind.u64.wrap ((r : Int) * 4294967296)) (x : Int) = ((r * 4294967296 + x : Nat) : Int) ∧ bits .or .u64 ((r : Int) * 4294967296) (x : Int) = ((r * 4294967296 + x : Nat) : Int) := by
  have e : IntKind.u64.wrap ((r : Int) * 4294967296) = (r : Int) * 4294967296 := by rw [IntKind.wrap_u64]; omega
  have := or_words _ _ hr hx
  rw [e] at this
  rw [e]
  refine ⟨?_, ?_⟩ <;> rw [this]
  · exact congrArg _ (by omega)
  · exact congrArg _ (by omega)

set_option maxRecDepth 100000 in
set_option maxHeartbeats 1000000 in
theorem num_quoWords2 (A B : Option Addr) (n c d : Nat) (xs : List Nat) (y : Nat) (w : World) (hx : U32 w A n c xs) (hy : U32 w B 1 d [y]) (tx : Tr xs) (ty : Tr [y]) (hn : n ≤ 300000) (hy0 : 0 < y) (hle : Hid (cmpN (val xs) (val [y]) = 0 ∨ cmpN (val xs) (val [y]) = 1)) :
    Calls Try.prog 81 #[.slice A n c, .slice B 1 d] w (PQuo w xs [y]) := by
  obtain ⟨i0, hi, hz0, hz1, hz2⟩ := info_parts info32
  have hyl : y < 4294967296 := hy.2.1 y (by simp)
  have hxl := Lib.hid hx.1
  go_enter Try.func81, Try.ntmps81
  go_wp2_with fail
  refine (num_cmpWords A B n c 1 d xs [y] _ hx hy tx ty (by omega) (by omega)).mono ?_
  rintro e w1 ⟨rfl, hb1⟩
  obtain ⟨cv, hcv, hcd⟩ : ∃ cv : Int, cv = cmpN (val xs) (val [y]) ∧ ¬ cv < 0 := ⟨_, rfl, by rcases hle.out with h | h <;> omega⟩
  rw [← hcv]
  clear hcv hle
  have hx1 := hx.below hb1 (Nat.le_refl _)
  have hy1 := hy.below hb1 (Nat.le_refl _)
  go_wp2_with (at_make; refine wpList_make_full _ rfl _ _ 30 rfl w1.heap.size 85 i0 (.int .u32 0) 1 Try.underlying30 hi hz0 hz1 .i64 .i64 _ _ n rfl rfl ?c1 ?c1' ?c2 ?c3 ?c4 ?_; rotate_left 5; intro w2 hown hg1)
  case c1 => simp
  case c1' => simp
  case c2 => rw [hz2]; omega
  case c3 => simp [maxLen]; omega
  case c4 => exact Nat.le_refl _
  have hb0 : Below w1.heap.size w1 w2 := (Below.refl _ _).grown hg1 (Nat.le_refl _) (by intro k hk; cases hk)
  rw [made_zeros] at hown
  clear hg1
  obtain ⟨gy, oy, y', rfl, hgy, hyk', hyl', hcy1⟩ := hy1.cell (k := 0) (by omega)
  obtain rfl : y = y' := by simpa using hyk'
  rw [Nat.add_zero] at hcy1
  clear hyk' hyl'
  have hn1 : gy ≠ w1.heap.size := by omega
  have hn2 : w1.heap.size ≠ gy := by omega
  go_loopw [7, 8] (fun v7 v8 wr => ∃ (j : Int) (r : Nat) (L : List Nat), -1 ≤ j ∧ j < n ∧ v8 = .int .i64 j ∧ v7 = .int .u64 r ∧ r < 4294967296 ∧ wr.ownsRow w1.heap.size 85 1 (.slice (some ⟨w1.heap.size, 0, none⟩) n n) n (vs L) ∧ Bd L ∧ Hid (DV xs L y (j + 1).toNat r) ∧ Below w1.heap.size w1 wr) (fun _ i _ => (intOf i + 1).toNat)
  case atStart => exact ⟨(n : Int) - 1, 0, List.replicate n 0, by omega, by omega, rfl, rfl, by omega, hown, Bd_zeros _, by rw [show ((n : Int) - 1 + 1).toNat = n by omega]; exact DV.start hxl.out hy0, hb0⟩
  case round =>
    clear hown hb0
    obtain ⟨j, r, L, hj0, hjn, rfl, rfl, hrl, hown, hbd, hD, hb⟩ := hrel
    by_cases hj : 0 ≤ j
    · obtain ⟨k, rfl⟩ := Int.eq_ofNat_of_zero_le hj
      obtain ⟨gx, ox, x, rfl, hgx, hxk', hxb, hcx⟩ := (hx1.below hb (Nat.le_refl _)).cell (k := k) (by omega)
      have hcy := (hb.cell (p := ⟨gy, oy, none⟩) hgy).trans hcy1
      have hfr := hown.frozenAt k
      obtain ⟨o, ho', hco⟩ := row_cell hown (k := k) (by omega)
      clear ho'
      have hD' : Hid (DV xs L y (k + 1) r) := by have := hD.out; rwa [show ((k : Int) + 1).toNat = k + 1 by omega] at this
      have hst := Lib.hid (hD'.out.step hxk')
      have hry := hD.out.2.1
      have hqb := dv_lt hry hxb
      have hor := or_shl hrl hxb
      have hpb := Nat.mod_lt (r * 4294967296 + x) hy0
      clear hxk' hD hD'
      obtain ⟨s, hs⟩ : ∃ s, s = r * 4294967296 + x := ⟨_, rfl⟩
      rw [← hs] at hst hqb hor hpb
      have hdv := tdivN s y
      have hmd := tmodN s y
      obtain ⟨q, hq⟩ : ∃ q, q = s / y := ⟨_, rfl⟩
      obtain ⟨p, hp⟩ : ∃ p, p = s % y := ⟨_, rfl⟩
      rw [← hq] at hst hqb hdv
      rw [← hp] at hst hpb hmd
      have hp2 : p < 4294967296 := by omega
      obtain ⟨hor1, hor2⟩ := hor
      clear hq hp hs
      have hyne : ((y : Int) == 0) = false := by simp; omega
      go_wp2
      go_roundw
      case rel => exact ⟨(k : Int) - 1, p, L.set k q, by omega, by omega, rfl, rfl, hp2, row_set hown k q (by first | rfl | omega), Bd_set hbd hqb, by rw [show ((k : Int) - 1 + 1).toNat = k by omega]; exact hst, hb.setCell (Nat.le_refl _) _⟩
      case measure => simp [intOf] <;> omega
    · have : j = -1 := by omega
      subst this
      have hD := hD.out
      rw [show ((-1 : Int) + 1).toNat = 0 by omega] at hD
      obtain ⟨hv, hry, hll⟩ := hD
      rw [List.drop_zero, List.drop_zero] at hv
      have hq : Hid (val L = val xs / val [y] ∧ val [r] = val xs % val [y]) := by
        show _ ∧ _
        have e1 : val [y] = y := by simp [val]
        have e2 : val [r] = r := by simp [val]
        rw [e1, e2, hv]
        constructor
        · rw [Nat.mul_comm, Nat.mul_add_div (by omega), Nat.div_eq_of_lt hry]; rfl
        · rw [Nat.mul_comm, Nat.mul_add_mod, Nat.mod_eq_of_lt hry]
      clear hv hll
      go_wp2
      go_ret2
      exact ⟨some ⟨w1.heap.size, 0, none⟩, n, n, L, some ⟨wr.heap.size, 0, none⟩, 1, 1, [r], rfl, (U32.own hown hbd).below ((Below.refl _ _).alloc (Nat.le_refl _) _) (Nat.le_refl _), U32.new2 (xs := [r]) rfl rfl (by intro x hx; simp at hx; omega) (by simp), hq.out.1, hq.out.2, by omega, by omega, ((hb1.trans (Below.mono hb hb1.size)).alloc (Nat.le_trans hb1.size hb.size) _)⟩

end Go.Proofs.Ytgoojlnfobjplaa
