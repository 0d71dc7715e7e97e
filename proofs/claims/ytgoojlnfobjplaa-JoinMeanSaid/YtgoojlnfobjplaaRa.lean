/- What the reference does with words: noughts left out, comparison, sums, differences. -/
import Derived.Test.YtgoojlnfobjplaaZn
import Derived.Test.YtgoojlnfobjplaaZo
namespace Go.Proofs.Ytgoojlnfobjplaa
open Go.RowKit
set_option linter.unusedSimpArgs false
set_option linter.unusedVariables false
attribute [local go_sem] qn30 qe30

/-- an amount comes out -/
def PW (w : World) (v : Nat) (e : Ending) (w' : World) : Prop :=
  ∃ A l c xs, e = .returned (.slice A l c) ∧ U32 w' A l c xs ∧ Tr xs ∧ val xs = v ∧ Below w.heap.size w w'

theorem U32.cellD {w w' : World} {A : Option Addr} {n c B : Nat} {xs : List Nat} (h : U32 w A n c xs) (hb : Below B w w') (hB : w.heap.size ≤ B) {k : Nat} (hk : k < n) : ∃ (g o : Nat) (u : Nat), A = some ⟨g, o, none⟩ ∧ g < w'.heap.size ∧ xs[k]? = some u ∧ u < 4294967296 ∧ w'.cell? ⟨g, o + k, none⟩ = some (.int .u32 (u : Int)) := (h.below hb hB).cell hk

/-- noughts at the end are left out -/
def PTrim (w : World) (A : Option Addr) (n c : Nat) (xs : List Nat) (e : Ending) (w' : World) : Prop :=
  ∃ k, k ≤ n ∧ e = .returned (.slice A k c) ∧ Hid (val (xs.take k) = val xs) ∧ Tr (xs.take k) ∧ Below w.heap.size w w'

set_option maxRecDepth 100000 in
theorem r_trim (A : Option Addr) (n c : Nat) (xs : List Nat) (w : World) (hx : U32 w A n c xs) (hn : n ≤ 1000000) :
    Calls Try.prog 61 #[.slice A n c] w (PTrim w A n c xs) := by
  have hnc := hx.2.2.1
  go_enter Try.func61, Try.ntmps61
  go_wp2_with fail
  go_loopw [0] (fun v0 wr => ∃ (k : Nat), k ≤ n ∧ v0 = .slice A k c ∧ Hid (val (xs.take k) = val xs) ∧ Below w.heap.size w wr) (fun v _ => lenOf v)
  case atStart => exact ⟨n, Nat.le_refl _, rfl, by show _ = _; rw [List.take_of_length_le (by have := hx.1; omega)], Below.refl _ _⟩
  case round =>
    obtain ⟨k, hk, rfl, hv, hb⟩ := hrel
    rcases Nat.eq_zero_or_pos k with rfl | h0
    · go_wp2_with fail
      go_ret
      exact ⟨0, by omega, rfl, hv, by simp [Tr], hb⟩
    · obtain ⟨gx, ox, x, rfl, hgx, hxk', hxl, hcx⟩ := hx.cellD hb (Nat.le_refl _) (k := k - 1) (by omega)
      have hxk := Lib.hid hxk'
      clear hxk'
      by_cases h1 : x = 0
      · subst h1
        go_wp2_with fail
        go_roundw
        case rel => exact ⟨k - 1, by omega, rfl, trim_step h0 hxk.out hv, hb⟩
        case measure => simp only [lenOf]; omega
      · have h2 : ((x : Int) == 0) = false := by simp; omega
        go_wp2_with fail
        go_ret
        exact ⟨k, hk, rfl, hv, trim_stop h0 hxk.out h1, hb⟩

set_option maxRecDepth 100000 in
set_option maxHeartbeats 1000000 in
theorem r_order (A B : Option Addr) (n c m d : Nat) (xs ys : List Nat) (w : World) (hx : U32 w A n c xs) (hy : U32 w B m d ys) (tx : Tr xs) (ty : Tr ys) (hn : n ≤ 1000000) (hm : m ≤ 1000000) :
    Calls Try.prog 64 #[.slice A n c, .slice B m d] w fun e w' => e = .returned (.int .i64 (cmpN (val xs) (val ys))) ∧ Below w.heap.size w w' := by
  have hnx := Lib.hid hx.1
  have hny := Lib.hid hy.1
  rcases Nat.lt_trichotomy n m with h | h | h
  · have hc := Lib.hid (cmpN_lt (Tr.lt_of_len hx.2.1 ty (by have := hnx.out; have := hny.out; omega)))
    have h1 : ((n : Int) != m) = true := by simp; omega
    go_enter Try.func64, Try.ntmps64
    go_wp2
    go_ret
    exact ⟨by rw [hc.out]; rfl, Below.refl _ _⟩
  · subst h
    have h1 : ((n : Int) != n) = false := by simp
    go_enter Try.func64, Try.ntmps64
    go_wp2
    go_loopw [5] (fun v5 wr => ∃ j : Int, -1 ≤ j ∧ j < n ∧ v5 = .int .i64 j ∧ Hid (xs.drop (j + 1).toNat = ys.drop (j + 1).toNat) ∧ Below w.heap.size w wr) (fun i _ => (intOf i + 1).toNat)
    case atStart => exact ⟨(n : Int) - 1, by omega, by omega, rfl, by have := hnx.out; have := hny.out; show _ = _; rw [List.drop_of_length_le (by omega), List.drop_of_length_le (by omega)], Below.refl _ _⟩
    case round =>
      obtain ⟨j, hj0, hjn, rfl, hd, hb⟩ := hrel
      by_cases hj : 0 ≤ j
      · obtain ⟨k, rfl⟩ := Int.eq_ofNat_of_zero_le hj
        obtain ⟨gx, ox, x, rfl, hgx, hxk, hxl, hcx⟩ := (hx.below hb (Nat.le_refl _)).cell (k := k) (by omega)
        obtain ⟨gy, oy, y, rfl, hgy, hyk, hyl, hcy⟩ := (hy.below hb (Nat.le_refl _)).cell (k := k) (by omega)
        have hxk' := Lib.hid hxk
        have hyk' := Lib.hid hyk
        clear hxk hyk
        have hl : Hid (xs.length = ys.length) := by have := hnx.out; have := hny.out; show _ = _; omega
        have hd' : Hid (xs.drop (k + 1) = ys.drop (k + 1)) := by have := hd.out; show _ = _; rwa [show ((k : Int) + 1).toNat = k + 1 by omega] at this
        clear hd
        rcases Nat.lt_trichotomy x y with h | h | h
        · have hc := Lib.hid (cmpN_lt (val_lt_at hx.2.1 hl.out hxk'.out hyk'.out hd'.out h))
          go_wp2
          go_quiet (fail)
          go_wp2
          go_ret
          exact ⟨by rw [hc.out]; rfl, by repeat (first | exact hb | apply bdN | apply Below.drew)⟩
        · have h2 : ¬ x < y := by omega
          have h3 : ¬ y < x := by omega
          go_wp2
          go_quiet (fail)
          go_wp2
          go_quiet (fail)
          go_wp2
          go_roundw
          case rel => exact ⟨(k : Int) - 1, by omega, by omega, rfl, by show _ = _; rw [show ((k : Int) - 1 + 1).toNat = k by omega]; exact drop_step hxk'.out (by rw [hyk'.out, h]) hd'.out, by repeat (first | exact hb | apply bdN | apply Below.drew)⟩
          case measure => simp [intOf] <;> omega
        · have hc := Lib.hid (cmpN_gt (val_lt_at hy.2.1 hl.out.symm hyk'.out hxk'.out hd'.out.symm h))
          have h2 : ¬ x < y := by omega
          go_wp2
          go_quiet (fail)
          go_wp2
          go_quiet (fail)
          go_wp2
          go_ret
          exact ⟨by rw [hc.out]; rfl, by repeat (first | exact hb | apply bdN | apply Below.drew)⟩
      · have : j = -1 := by omega
        subst this
        have he := Lib.hid (cmpN_eq (show val xs = val ys by have := hd.out; rw [show ((-1 : Int) + 1).toNat = 0 by omega, List.drop_zero, List.drop_zero] at this; rw [this]))
        go_wp2
        go_ret
        exact ⟨by rw [he.out]; rfl, hb⟩
  · have hc := Lib.hid (cmpN_gt (Tr.lt_of_len hy.2.1 tx (by have := hnx.out; have := hny.out; omega)))
    have h1 : ((n : Int) != m) = true := by simp; omega
    have h2 : ¬ n < m := by omega
    go_enter Try.func64, Try.ntmps64
    go_wp2
    go_ret
    exact ⟨by rw [hc.out]; rfl, Below.refl _ _⟩

end Go.Proofs.Ytgoojlnfobjplaa

/- What the reference does with words: sums and differences. -/
namespace Go.Proofs.Ytgoojlnfobjplaa
open Go.RowKit
set_option linter.unusedSimpArgs false
set_option linter.unusedVariables false
attribute [local go_sem] qn30 qe30

theorem add_step2 {xs ys zs : List Nat} {k cy x y : Nat} (hk : zs.length = k) (hx : val (xs.take (k + 1)) = val (xs.take k) + 4294967296 ^ k * x) (hy : val (ys.take (k + 1)) = val (ys.take k) + 4294967296 ^ k * y)
    (h : Hid (val zs + 4294967296 ^ k * cy = val (xs.take k) + val (ys.take k))) :
    Hid (val (zs ++ [(x + cy + y) % 4294967296]) + 4294967296 ^ (k + 1) * ((x + cy + y) / 4294967296) = val (xs.take (k + 1)) + val (ys.take (k + 1))) := by
  have h := h.out
  show _ = _
  rw [val_snoc, hk, hx, hy, Nat.pow_succ]
  have e := Nat.div_add_mod (x + cy + y) 4294967296
  generalize (x + cy + y) / 4294967296 = q at *
  generalize (x + cy + y) % 4294967296 = r at *
  generalize 4294967296 ^ k = P at *
  grind

def PPlus (w : World) (n m : Nat) (v5 : Value) (wc : World) : Prop :=
  ∃ N, n ≤ N ∧ m ≤ N ∧ N ≤ 900000 ∧ v5 = .slice (some ⟨w.heap.size, 0, none⟩) 0 (N + 1) ∧ wc.ownsRow w.heap.size 85 1 (.slice (some ⟨w.heap.size, 0, none⟩) 0 (N + 1)) 0 [] ∧ Below w.heap.size w wc

set_option maxRecDepth 100000 in
set_option maxHeartbeats 1000000 in
theorem r_plus (A B : Option Addr) (n c m d : Nat) (xs ys : List Nat) (w : World) (hx : U32 w A n c xs) (hy : U32 w B m d ys) (hn : n ≤ 900000) (hm : m ≤ 900000) :
    Calls Try.prog 82 #[.slice A n c, .slice B m d] w (PW w (val xs + val ys)) := by
  obtain ⟨i0, hi, hz0, hz1, hz2⟩ := info_parts info32
  go_enter Try.func82, Try.ntmps82
  go_upto_region 1 with fail
  go_cut [5] from 8 to 14 (fun v5 wc => PPlus w n m v5 wc)
  case first =>
    rcases Nat.lt_or_ge n m with h | h
    · go_wp2_with (at_make; go_loud (refine wpList_make_own _ rfl _ _ 30 rfl w.heap.size 85 i0 (.int .u32 0) 1 Try.underlying30 hi hz0 hz1 .i64 .i64 _ (m + 1) rfl rfl ?c1 ?c2 ?c3 ?c4 ?_; rotate_left 4; intro w1 hown hg1))
      case c1 => simp
      case c2 => rw [hz2]; omega
      case c3 => simp [maxLen]; omega
      case c4 => exact Nat.le_refl _
      go_meet
      exact ⟨m, by omega, by omega, hm, rfl, hown, (Below.refl _ _).grown hg1 (Nat.le_refl _) (by intro k hk; cases hk)⟩
    · have h2 : ¬ n < m := by omega
      go_wp2_with (at_make; go_loud (refine wpList_make_own _ rfl _ _ 30 rfl w.heap.size 85 i0 (.int .u32 0) 1 Try.underlying30 hi hz0 hz1 .i64 .i64 _ (n + 1) rfl rfl ?c1 ?c2 ?c3 ?c4 ?_; rotate_left 4; intro w1 hown hg1))
      case c1 => simp
      case c2 => rw [hz2]; omega
      case c3 => simp [maxLen]; omega
      case c4 => exact Nat.le_refl _
      go_meet
      exact ⟨n, by omega, by omega, hn, rfl, hown, (Below.refl _ _).grown hg1 (Nat.le_refl _) (by intro k hk; cases hk)⟩
  case rest =>
    obtain ⟨N, hnN, hmN, hN, rfl, hown, hb0⟩ := hcut
    go_wp2_with fail
    go_loopw [5, 6, 7] (fun v5 v6 v7 wr => ∃ (k cy : Nat) (zs : List Nat), k ≤ max n m ∧ cy ≤ 1 ∧ v7 = .int .i64 k ∧ v6 = .int .u64 cy ∧ v5 = .slice (some ⟨w.heap.size, 0, none⟩) k (N + 1) ∧ wr.ownsRow w.heap.size 85 1 (.slice (some ⟨w.heap.size, 0, none⟩) k (N + 1)) k (vs zs) ∧ Bd zs ∧ Hid (val zs + 4294967296 ^ k * cy = val (xs.take k) + val (ys.take k)) ∧ Below w.heap.size w wr) (fun _ _ i _ => max n m - (intOf i).toNat)
    case atStart => exact ⟨0, 0, [], by omega, by omega, rfl, rfl, rfl, hown, Bd_nil, by simp [val, Hid], hb0⟩
    case round =>
      clear hown hb0
      obtain ⟨k, cy, zs, hk, hcy, rfl, rfl, rfl, hown, hbd, hv, hb⟩ := hrel
      by_cases hlt : k < n
      · obtain ⟨gx, ox, x, rfl, hgx, hxk', hxl, hcx⟩ := hx.cellD hb (Nat.le_refl _) hlt
        have hxk := Lib.hid hxk'
        clear hxk'
        by_cases hlm : k < m
        · obtain ⟨gy, oy, y, rfl, hgy, hyk', hyl, hcy'⟩ := hy.cellD hb (Nat.le_refl _) hlm
          have hyk := Lib.hid hyk'
          clear hyk'
          go_wp2_with (at_builtin; refine wpList_append_fits _ rfl _ _ 30 rfl w.heap.size 85 i0 1 Try.underlying30 hi hz1 w.heap.size k (N + 1) (vs zs) rfl (hown.alloc _) ⟨wr.heap.size, 0, none⟩ 1 1 [_] rfl rfl (cell_one_new _ _ _) ?c1 (by omega) ?_; rotate_left 1; intro w2 hown2 hg2)
          case c1 => simp [Value.oneCell']
          go_roundw
          case rel => exact ⟨k + 1, (x + cy + y) / 4294967296, zs ++ [(x + cy + y) % 4294967296], by omega, by omega, by go_num, congrArg _ (by omega), rfl, own_snoc hown2 (by omega), Bd_snoc hbd (by omega), add_step2 (own_len hown) (val_take_succ _ _ _ hxk.out) (val_take_succ _ _ _ hyk.out) hv, (hb.alloc hb.size _).grown hg2 (by simp; have := hb.size; omega) (by intro q hq; cases hq; exact Nat.le_refl _)⟩
          case measure => simp [intOf]; omega
        · have hyn := Lib.hid (take_past (ys := ys) (k := k) (by have := hy.1; omega))
          go_wp2_with (at_builtin; refine wpList_append_fits _ rfl _ _ 30 rfl w.heap.size 85 i0 1 Try.underlying30 hi hz1 w.heap.size k (N + 1) (vs zs) rfl (hown.alloc _) ⟨wr.heap.size, 0, none⟩ 1 1 [_] rfl rfl (cell_one_new _ _ _) ?c1 (by omega) ?_; rotate_left 1; intro w2 hown2 hg2)
          case c1 => simp [Value.oneCell']
          go_roundw
          case rel => exact ⟨k + 1, (x + cy + 0) / 4294967296, zs ++ [(x + cy + 0) % 4294967296], by omega, by omega, by go_num, congrArg _ (by omega), rfl, own_snoc hown2 (by omega), Bd_snoc hbd (by omega), add_step2 (own_len hown) (val_take_succ _ _ _ hxk.out) hyn.out hv, (hb.alloc hb.size _).grown hg2 (by simp; have := hb.size; omega) (by intro q hq; cases hq; exact Nat.le_refl _)⟩
          case measure => simp [intOf]; omega
      · have hxn := Lib.hid (take_past (ys := xs) (k := k) (by have := hx.1; omega))
        by_cases hlm : k < m
        · obtain ⟨gy, oy, y, rfl, hgy, hyk', hyl, hcy'⟩ := hy.cellD hb (Nat.le_refl _) hlm
          have hyk := Lib.hid hyk'
          clear hyk'
          go_wp2_with (at_builtin; refine wpList_append_fits _ rfl _ _ 30 rfl w.heap.size 85 i0 1 Try.underlying30 hi hz1 w.heap.size k (N + 1) (vs zs) rfl (hown.alloc _) ⟨wr.heap.size, 0, none⟩ 1 1 [_] rfl rfl (cell_one_new _ _ _) ?c1 (by omega) ?_; rotate_left 1; intro w2 hown2 hg2)
          case c1 => simp [Value.oneCell']
          go_roundw
          case rel => exact ⟨k + 1, (0 + cy + y) / 4294967296, zs ++ [(0 + cy + y) % 4294967296], by omega, by omega, by go_num, congrArg _ (by omega), rfl, own_snoc hown2 (by omega), Bd_snoc hbd (by omega), add_step2 (own_len hown) hxn.out (val_take_succ _ _ _ hyk.out) hv, (hb.alloc hb.size _).grown hg2 (by simp; have := hb.size; omega) (by intro q hq; cases hq; exact Nat.le_refl _)⟩
          case measure => simp [intOf]; omega
        · have e1 := own_len hown
          go_wp2_with (at_builtin; refine wpList_append_fits _ rfl _ _ 30 rfl w.heap.size 85 i0 1 Try.underlying30 hi hz1 w.heap.size k (N + 1) (vs zs) rfl (hown.alloc _) ⟨wr.heap.size, 0, none⟩ 1 1 [.int .u32 (cy : Int)] rfl rfl (cell_one_new _ _ _) ?c1 (by omega) ?_; rotate_left 1; intro w2 hown2 hg2)
          case c1 => simp [Value.oneCell']
          have hb2 : Below w.heap.size w w2 := (hb.alloc hb.size _).grown hg2 (by simp; have := hb.size; omega) (by intro q hq; cases hq; exact Nat.le_refl _)
          have hU : U32 w2 (some ⟨w.heap.size, 0, none⟩) (k + 1) (N + 1) (zs ++ [cy]) := U32.own (own_snoc hown2 rfl) (Bd_snoc hbd (by omega))
          have e : Hid (val (zs ++ [cy]) = val xs + val ys) := by
            have h2 := hv.out
            rw [List.take_of_length_le (by have := hx.1; omega), List.take_of_length_le (by have := hy.1; omega)] at h2
            show _ = _
            rw [val_snoc, e1]; exact h2
          clear hown2 hg2 hv hxn
          go_wp2_with fail
          refine (r_trim _ _ _ _ _ hU (by omega)).mono ?_
          rintro e w3 ⟨k', hk', rfl, hv', ht', hb3⟩
          have hb4 := hb2.trans (hb3.mono hb2.size)
          go_wp2_with fail
          go_ret
          exact ⟨_, _, _, _, rfl, (hU.take hk').below hb3 (Nat.le_refl _), ht', hv'.out.trans e.out, hb4⟩

end Go.Proofs.Ytgoojlnfobjplaa

/- What the reference does with words: differences, the words of an int. -/
namespace Go.Proofs.Ytgoojlnfobjplaa
open Go.RowKit
set_option linter.unusedSimpArgs false
set_option linter.unusedVariables false
attribute [local go_sem] qn30 qe30

set_option maxRecDepth 100000 in
set_option maxHeartbeats 1000000 in
theorem r_less (A B : Option Addr) (n c m d : Nat) (xs ys : List Nat) (w : World) (hx : U32 w A n c xs) (hy : U32 w B m d ys) (hn : n ≤ 900000) (hm : m ≤ n) (hle : Hid (val ys ≤ val xs)) :
    Calls Try.prog 83 #[.slice A n c, .slice B m d] w (PW w (val xs - val ys)) := by
  obtain ⟨i0, hi, hz0, hz1, hz2⟩ := info_parts info32
  go_enter Try.func83, Try.ntmps83
  go_wp2_with (at_make; refine wpList_make_own _ rfl _ _ 30 rfl w.heap.size 85 i0 (.int .u32 0) 1 Try.underlying30 hi hz0 hz1 .i64 .i64 _ n rfl rfl ?c1 ?c2 ?c3 ?c4 ?_; rotate_left 4; intro w1 hown hg1)
  case c1 => simp
  case c2 => rw [hz2]; omega
  case c3 => simp [maxLen]; omega
  case c4 => exact Nat.le_refl _
  have hb0 : Below w.heap.size w w1 := (Below.refl _ _).grown hg1 (Nat.le_refl _) (by intro k hk; cases hk)
  clear hg1
  go_loopw [5, 6, 7] (fun v5 v6 v7 wr => ∃ (k bw : Nat) (zs : List Nat), k ≤ n ∧ bw ≤ 1 ∧ v7 = .int .i64 k ∧ v6 = .int .u64 bw ∧ v5 = .slice (some ⟨w.heap.size, 0, none⟩) k n ∧ wr.ownsRow w.heap.size 85 1 (.slice (some ⟨w.heap.size, 0, none⟩) k n) k (vs zs) ∧ Bd zs ∧ Hid (val zs + val (ys.take k) = val (xs.take k) + 4294967296 ^ k * bw) ∧ Below w.heap.size w wr) (fun _ _ i _ => n - (intOf i).toNat)
  case atStart => exact ⟨0, 0, [], by omega, by omega, rfl, rfl, rfl, hown, Bd_nil, by simp [val, Hid], hb0⟩
  case round =>
    clear hown hb0
    obtain ⟨k, bw, zs, hk, hcy, rfl, rfl, rfl, hown, hbd, hv, hb⟩ := hrel
    by_cases hlt : k < n
    · obtain ⟨gx, ox, x, rfl, hgx, hxk', hxl, hcx⟩ := hx.cellD hb (Nat.le_refl _) hlt
      have hxk := Lib.hid hxk'
      clear hxk'
      by_cases hlm : k < m
      · obtain ⟨gy, oy, y, rfl, hgy, hyk', hyl, hcy'⟩ := hy.cellD hb (Nat.le_refl _) hlm
        have hyk := Lib.hid hyk'
        clear hyk'
        by_cases hd : (x : Int) - bw - y < 0
        · go_wp2_with (at_builtin; refine wpList_append_fits _ rfl _ _ 30 rfl w.heap.size 85 i0 1 Try.underlying30 hi hz1 w.heap.size k n (vs zs) rfl (hown.alloc _) ⟨wr.heap.size, 0, none⟩ 1 1 [_] rfl rfl (cell_one_new _ _ _) ?c1 (by omega) ?_; rotate_left 1; intro w2 hown2 hg2)
          case c1 => simp [Value.oneCell']
          go_roundw
          case rel => exact ⟨k + 1, 1, zs ++ [x + 4294967296 - bw - y], by omega, by omega, by go_num, congrArg _ (by first | omega | (simp only [IntKind.wrap_u64]; omega)), rfl, own_snoc hown2 (by first | omega | (simp only [IntKind.wrap_u64]; omega)), Bd_snoc hbd (by omega), sub_step (own_len hown) hxk.out (val_take_succ _ _ _ hyk.out) (by omega) hv, (hb.alloc hb.size _).grown hg2 (by simp; have := hb.size; omega) (by intro q hq; cases hq; exact Nat.le_refl _)⟩
          case measure => simp [intOf]; omega
        · go_wp2_with (at_builtin; refine wpList_append_fits _ rfl _ _ 30 rfl w.heap.size 85 i0 1 Try.underlying30 hi hz1 w.heap.size k n (vs zs) rfl (hown.alloc _) ⟨wr.heap.size, 0, none⟩ 1 1 [_] rfl rfl (cell_one_new _ _ _) ?c1 (by omega) ?_; rotate_left 1; intro w2 hown2 hg2)
          case c1 => simp [Value.oneCell']
          go_roundw
          case rel => exact ⟨k + 1, 0, zs ++ [x - bw - y], by omega, by omega, by go_num, congrArg _ (by first | omega | (simp only [IntKind.wrap_u64]; omega)), rfl, own_snoc hown2 (by first | omega | (simp only [IntKind.wrap_u64]; omega)), Bd_snoc hbd (by omega), sub_step (own_len hown) hxk.out (val_take_succ _ _ _ hyk.out) (by omega) hv, (hb.alloc hb.size _).grown hg2 (by simp; have := hb.size; omega) (by intro q hq; cases hq; exact Nat.le_refl _)⟩
          case measure => simp [intOf]; omega
      · have hyn := Lib.hid (take_past (ys := ys) (k := k) (by have := hy.1; omega))
        by_cases hd : (x : Int) - bw < 0
        · go_wp2_with (at_builtin; refine wpList_append_fits _ rfl _ _ 30 rfl w.heap.size 85 i0 1 Try.underlying30 hi hz1 w.heap.size k n (vs zs) rfl (hown.alloc _) ⟨wr.heap.size, 0, none⟩ 1 1 [_] rfl rfl (cell_one_new _ _ _) ?c1 (by omega) ?_; rotate_left 1; intro w2 hown2 hg2)
          case c1 => simp [Value.oneCell']
          go_roundw
          case rel => exact ⟨k + 1, 1, zs ++ [x + 4294967296 - bw], by omega, by omega, by go_num, congrArg _ (by first | omega | (simp only [IntKind.wrap_u64]; omega)), rfl, own_snoc hown2 (by first | omega | (simp only [IntKind.wrap_u64]; omega)), Bd_snoc hbd (by omega), sub_step (own_len hown) hxk.out hyn.out (by omega) hv, (hb.alloc hb.size _).grown hg2 (by simp; have := hb.size; omega) (by intro q hq; cases hq; exact Nat.le_refl _)⟩
          case measure => simp [intOf]; omega
        · go_wp2_with (at_builtin; refine wpList_append_fits _ rfl _ _ 30 rfl w.heap.size 85 i0 1 Try.underlying30 hi hz1 w.heap.size k n (vs zs) rfl (hown.alloc _) ⟨wr.heap.size, 0, none⟩ 1 1 [_] rfl rfl (cell_one_new _ _ _) ?c1 (by omega) ?_; rotate_left 1; intro w2 hown2 hg2)
          case c1 => simp [Value.oneCell']
          go_roundw
          case rel => exact ⟨k + 1, 0, zs ++ [x - bw], by omega, by omega, by go_num, congrArg _ (by first | omega | (simp only [IntKind.wrap_u64]; omega)), rfl, own_snoc hown2 (by first | omega | (simp only [IntKind.wrap_u64]; omega)), Bd_snoc hbd (by omega), sub_step (own_len hown) hxk.out hyn.out (by omega) hv, (hb.alloc hb.size _).grown hg2 (by simp; have := hb.size; omega) (by intro q hq; cases hq; exact Nat.le_refl _)⟩
          case measure => simp [intOf]; omega
    · have hk' : k = n := by omega
      subst hk'
      have hU := U32.own hown hbd
      have e : Hid (val zs = val xs - val ys) := by
        have h2 := hv.out
        have h3 := own_len hown
        rw [List.take_of_length_le (by have := hy.1; omega), List.take_of_length_le (by have := hx.1; omega)] at h2
        have h4 := sub_end h2 (by have := val_lt zs hbd; rwa [h3] at this) hle.out
        show _ = _
        omega
      go_wp2_with fail
      refine (r_trim _ _ _ _ _ hU (by omega)).mono ?_
      rintro e w3 ⟨k', hk', rfl, hv', ht', hb3⟩
      have hb4 := hb.trans (hb3.mono hb.size)
      go_wp2_with fail
      go_ret
      exact ⟨_, _, _, _, rfl, (hU.take hk').below hb3 (Nat.le_refl _), ht', hv'.out.trans e.out, hb4⟩

end Go.Proofs.Ytgoojlnfobjplaa
