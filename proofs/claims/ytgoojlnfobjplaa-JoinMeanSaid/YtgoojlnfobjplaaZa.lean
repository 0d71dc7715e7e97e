/- What the package num does with words: sums, differences, comparison. -/
import Derived.Test.YtgoojlnfobjplaaZn
namespace Go.Proofs.Ytgoojlnfobjplaa
open Go.RowKit
set_option linter.unusedSimpArgs false
set_option linter.unusedVariables false
attribute [local go_sem] qn30 qe30

set_option maxRecDepth 100000 in
set_option maxHeartbeats 1000000 in
theorem num_addWords (A B : Option Addr) (n c m d : Nat) (xs ys : List Nat) (w : World) (hx : U32 w A n c xs) (hy : U32 w B m d ys) (hn : n ≤ 1000000) (hm : m ≤ 1000000) :
    Calls Try.prog 69 #[.slice A n c, .slice B m d] w fun e w' => ∃ C l k zs, e = .returned (.slice C l k) ∧ U32 w' C l k zs ∧ val zs = val xs + val ys ∧ l ≤ n + m + 1 ∧ Below w.heap.size w w' := by
  obtain ⟨i0, hi, hz0, hz1, hz2⟩ := info_parts info32
  go_enter Try.func69, Try.ntmps69
  go_upto_if 13 with (fail)
  go_cut [0, 1] (fun v0 v1 wc => wc = w ∧ ∃ (A' : Option Addr) (n' c' : Nat) (B' : Option Addr) (m' d' : Nat) (xs' ys' : List Nat), v0 = .slice A' n' c' ∧ v1 = .slice B' m' d' ∧ U32 w A' n' c' xs' ∧ U32 w B' m' d' ys' ∧ Hid (val xs' + val ys' = val xs + val ys) ∧ m' ≤ n' ∧ n' ≤ 1000000 ∧ n' ≤ n + m)
  case first =>
    by_cases h : n < m
    · go_wp2_with fail
      go_meet
      exact ⟨rfl, B, m, d, A, n, c, ys, xs, rfl, rfl, hy, hx, Nat.add_comm _ _, by omega, hm, by omega⟩
    · go_wp2_with fail
      go_meet
      exact ⟨rfl, A, n, c, B, m, d, xs, ys, rfl, rfl, hx, hy, rfl, by omega, hn, by omega⟩
  case rest =>
    obtain ⟨rfl, A', n', c', B', m', d', xs', ys', rfl, rfl, hx', hy', HS, hle, hn', hnn⟩ := hcut
    clear hx hy
    go_wp2_with (at_make; go_loud (refine wpList_make_own _ rfl _ _ 30 rfl wc.heap.size 85 i0 (.int .u32 0) 1 Try.underlying30 hi hz0 hz1 .i64 .i64 _ (n' + 1) rfl rfl ?c1 ?c2 ?c3 ?c4 ?_; rotate_left 4; intro w1 hown hg1))
    case c1 => simp
    case c2 => rw [hz2]; omega
    case c3 => simp [maxLen]; omega
    case c4 => exact Nat.le_refl _
    have hb0 : Below wc.heap.size wc w1 := (Below.refl _ _).grown hg1 (Nat.le_refl _) (by intro k hk; cases hk)
    clear hg1
    go_loopw [5, 6, 22] (fun v5 v6 v22 wr => ∃ (k cy : Nat) (zs : List Nat), k ≤ n' ∧ cy ≤ 1 ∧ v22 = .int .i64 k ∧ v6 = .int .u64 cy ∧ v5 = .slice (some ⟨wc.heap.size, 0, none⟩) k (n' + 1) ∧ wr.ownsRow wc.heap.size 85 1 (.slice (some ⟨wc.heap.size, 0, none⟩) k (n' + 1)) k (vs zs) ∧ Bd zs ∧ Hid (val zs + 4294967296 ^ k * cy = val (xs'.take k) + val (ys'.take k)) ∧ Below wc.heap.size wc wr) (fun _ _ i _ => n' - (intOf i).toNat)
    case atStart => exact ⟨0, 0, [], by omega, by omega, rfl, rfl, rfl, hown, (fun _ h => absurd h List.not_mem_nil), by simp [val, Hid], hb0⟩
    case round =>
      obtain ⟨k, cy, zs, hk, hcy, rfl, rfl, rfl, hown, hbd, hv, hb⟩ := hrel
      by_cases hlt : k < n'
      · obtain ⟨gx, ox, x, rfl, hgx, hxk, hxl, hcx⟩ := (hx'.below hb (Nat.le_refl _)).cell hlt
        have hxk := Lib.hid hxk
        by_cases hlm : k < m'
        · obtain ⟨gy, oy, y, rfl, hgy, hyk, hyl, hcy'⟩ := (hy'.below hb (Nat.le_refl _)).cell hlm
          have hyk := Lib.hid hyk
          go_wp2_with (at_builtin; refine wpList_append_fits _ rfl _ _ 30 rfl wc.heap.size 85 i0 1 Try.underlying30 hi hz1 wc.heap.size k (n' + 1) (vs zs) rfl (hown.alloc _) ⟨wr.heap.size, 0, none⟩ 1 1 [.int .u32 (((x : Int) + cy + y) % 4294967296)] rfl rfl (cell_one_new _ _ _) ?c1 (by omega) ?_; rotate_left 1; intro w2 hown2 hg2)
          case c1 => simp [Value.oneCell']
          go_roundw
          case rel => exact ⟨k + 1, (x + cy + y) / 4294967296, zs ++ [(x + cy + y) % 4294967296], by omega, by omega, by go_num, congrArg _ (by omega), rfl, own_snoc hown2 (by omega), Bd_snoc hbd (by omega), add_step (by have := hown.1; rw [vs_len] at this; omega) hxk.out (val_take_succ _ _ _ hyk.out) hv, (hb.alloc hb.size _).grown hg2 (by simp; have := hb.size; omega) (by intro q hq; cases hq; exact Nat.le_refl _)⟩
          case measure => simp [intOf]; omega
        · have hyn : val (ys'.take (k + 1)) = val (ys'.take k) + 4294967296 ^ k * 0 := by
            rw [List.take_of_length_le (by have := hy'.1; omega), List.take_of_length_le (by have := hy'.1; omega)]; rfl
          have hyn := Lib.hid hyn
          go_wp2_with (at_builtin; refine wpList_append_fits _ rfl _ _ 30 rfl wc.heap.size 85 i0 1 Try.underlying30 hi hz1 wc.heap.size k (n' + 1) (vs zs) rfl (hown.alloc _) ⟨wr.heap.size, 0, none⟩ 1 1 [.int .u32 (((x : Int) + cy) % 4294967296)] rfl rfl (cell_one_new _ _ _) ?c1 (by omega) ?_; rotate_left 1; intro w2 hown2 hg2)
          case c1 => simp [Value.oneCell']
          go_roundw
          case rel => exact ⟨k + 1, (x + cy + 0) / 4294967296, zs ++ [(x + cy + 0) % 4294967296], by omega, by omega, by go_num, congrArg _ (by omega), rfl, own_snoc hown2 (by omega), Bd_snoc hbd (by omega), add_step (by have := hown.1; rw [vs_len] at this; omega) hxk.out hyn.out hv, (hb.alloc hb.size _).grown hg2 (by simp; have := hb.size; omega) (by intro q hq; cases hq; exact Nat.le_refl _)⟩
          case measure => simp [intOf]; omega
      · have hk' : k = n' := by omega
        subst hk'
        go_wp2_with (at_builtin; refine wpList_append_fits _ rfl _ _ 30 rfl wc.heap.size 85 i0 1 Try.underlying30 hi hz1 wc.heap.size k (k + 1) (vs zs) rfl (hown.alloc _) ⟨wr.heap.size, 0, none⟩ 1 1 [.int .u32 (cy : Int)] rfl rfl (cell_one_new _ _ _) ?c1 (by omega) ?_; rotate_left 1; intro w2 hown2 hg2)
        case c1 => simp [Value.oneCell']
        go_ret
        have e : val (zs ++ [cy]) = val xs + val ys := by
          have h1 := HS.out
          have h2 := hv.out
          have h3 : zs.length = k := by have := hown.1; rw [vs_len] at this; omega
          rw [List.take_of_length_le (by have := hx'.1; omega), List.take_of_length_le (by have := hy'.1; omega)] at h2
          rw [val_snoc, h3]; omega
        have ho : w2.ownsRow wc.heap.size 85 1 (.slice (some ⟨wc.heap.size, 0, none⟩) (k + 1) (k + 1)) (k + 1) (vs (zs ++ [cy])) := by
          rw [vs1 zs _ _ rfl]; exact hown2
        exact ⟨_, _, _, zs ++ [cy], rfl, U32.own ho (Bd_snoc hbd (by omega)), e, by omega, (hb.alloc hb.size _).grown hg2 (by simp; have := hb.size; omega) (by intro q hq; cases hq; exact Nat.le_refl _)⟩
set_option maxRecDepth 100000 in
set_option maxHeartbeats 1000000 in
theorem num_cmpWords (A B : Option Addr) (n c m d : Nat) (xs ys : List Nat) (w : World) (hx : U32 w A n c xs) (hy : U32 w B m d ys) (tx : Tr xs) (ty : Tr ys) (hn : n ≤ 1000000) (hm : m ≤ 1000000) :
    Calls Try.prog 70 #[.slice A n c, .slice B m d] w fun e w' => e = .returned (.int .i64 (cmpN (val xs) (val ys))) ∧ Below w.heap.size w w' := by
  have hnx := Lib.hid hx.1
  have hny := Lib.hid hy.1
  rcases Nat.lt_trichotomy n m with h | h | h
  · have hc := Lib.hid (cmpN_lt (Tr.lt_of_len hx.2.1 ty (by have := hnx.out; have := hny.out; omega)))
    have h1 : (!((n : Int) == m)) = true := by simp; omega
    go_enter Try.func70, Try.ntmps70
    go_wp2
    go_ret
    exact ⟨by rw [hc.out]; rfl, Below.refl _ _⟩
  · subst h
    go_enter Try.func70, Try.ntmps70
    go_wp2
    go_loopw [5] (fun v5 wr => ∃ j : Int, -1 ≤ j ∧ j < n ∧ v5 = .int .i64 j ∧ Hid (xs.drop (j + 1).toNat = ys.drop (j + 1).toNat) ∧ Below w.heap.size w wr) (fun i _ => (intOf i + 1).toNat)
    case atStart => exact ⟨(n : Int) - 1, by omega, by omega, rfl, by have := hnx.out; have := hny.out; show _ = _; rw [List.drop_of_length_le (by omega), List.drop_of_length_le (by omega)], Below.refl _ _⟩
    case round =>
      obtain ⟨j, hj0, hjn, rfl, hd, hb⟩ := hrel
      by_cases hj : 0 ≤ j
      · obtain ⟨k, rfl⟩ := Int.eq_ofNat_of_zero_le hj
        obtain ⟨gx, ox, x, rfl, hgx, hxk, hxl, hcx⟩ := (hx.below hb (Nat.le_refl _)).cell (k := k) (by omega)
        obtain ⟨gy, oy, y, rfl, hgy, hyk, hyl, hcy⟩ := (hy.below hb (Nat.le_refl _)).cell (k := k) (by omega)
        have hxk' := Lib.hid hxk
        have hyk' := Lib.hid hyk
        clear hxk hyk
        have hl : Hid (xs.length = ys.length) := by have := hnx.out; have := hny.out; show _ = _; omega
        have hd' : Hid (xs.drop (k + 1) = ys.drop (k + 1)) := by have := hd.out; show _ = _; rwa [show ((k : Int) + 1).toNat = k + 1 by omega] at this
        clear hd
        rcases Nat.lt_trichotomy x y with h | h | h
        · have hc := Lib.hid (cmpN_lt (val_lt_at hx.2.1 hl.out hxk'.out hyk'.out hd'.out h))
          have h1 : (!((x : Int) == y)) = true := by simp; omega
          go_wp2
          go_quiet (fail)
          go_wp2
          go_quiet (fail)
          go_wp2
          go_ret
          exact ⟨by rw [hc.out]; rfl, by repeat (first | exact hb | apply bdN | apply Below.drew)⟩
        · have h1 : (!((x : Int) == y)) = false := by simp; omega
          go_wp2
          go_quiet (fail)
          go_wp2
          go_roundw
          case rel => exact ⟨(k : Int) - 1, by omega, by omega, rfl, by show _ = _; rw [show ((k : Int) - 1 + 1).toNat = k by omega]; exact drop_step hxk'.out (by rw [hyk'.out, h]) hd'.out, by repeat (first | exact hb | apply bdN | apply Below.drew)⟩
          case measure => simp [intOf] <;> omega
        · have hc := Lib.hid (cmpN_gt (val_lt_at hy.2.1 hl.out.symm hyk'.out hxk'.out hd'.out.symm h))
          have h1 : (!((x : Int) == y)) = true := by simp; omega
          go_wp2
          go_quiet (fail)
          go_wp2
          go_quiet (fail)
          go_wp2
          go_ret
          exact ⟨by rw [hc.out]; rfl, by repeat (first | exact hb | apply bdN | apply Below.drew)⟩
      · have : j = -1 := by omega
        subst this
        have he := Lib.hid (cmpN_eq (show val xs = val ys by have := hd.out; rw [show ((-1 : Int) + 1).toNat = 0 by omega, List.drop_zero, List.drop_zero] at this; rw [this]))
        go_wp2
        go_ret
        exact ⟨by rw [he.out]; rfl, hb⟩
  · have hc := Lib.hid (cmpN_gt (Tr.lt_of_len hy.2.1 tx (by have := hnx.out; have := hny.out; omega)))
    have h1 : (!((n : Int) == m)) = true := by simp; omega
    go_enter Try.func70, Try.ntmps70
    go_wp2
    go_ret
    exact ⟨by rw [hc.out]; rfl, Below.refl _ _⟩
set_option maxRecDepth 100000 in
set_option maxHeartbeats 1000000 in
theorem num_subWords (A B : Option Addr) (n c m d : Nat) (xs ys : List Nat) (w : World) (hx : U32 w A n c xs) (hy : U32 w B m d ys) (hn : n ≤ 1000000) (hm : m ≤ n) (hle : Hid (val ys ≤ val xs)) :
    Calls Try.prog 71 #[.slice A n c, .slice B m d] w fun e w' => ∃ C l k zs, e = .returned (.slice C l k) ∧ U32 w' C l k zs ∧ val zs + val ys = val xs ∧ l ≤ n ∧ Below w.heap.size w w' := by
  obtain ⟨i0, hi, hz0, hz1, hz2⟩ := info_parts info32
  go_enter Try.func71, Try.ntmps71
  go_wp2_with (at_make; refine wpList_make_own _ rfl _ _ 30 rfl w.heap.size 85 i0 (.int .u32 0) 1 Try.underlying30 hi hz0 hz1 .i64 .i64 _ n rfl rfl ?c1 ?c2 ?c3 ?c4 ?_; rotate_left 4; intro w1 hown hg1)
  case c1 => simp
  case c2 => rw [hz2]; omega
  case c3 => simp [maxLen]; omega
  case c4 => exact Nat.le_refl _
  have hb0 : Below w.heap.size w w1 := (Below.refl _ _).grown hg1 (Nat.le_refl _) (by intro k hk; cases hk)
  clear hg1
  go_loopw [5, 6, 14] (fun v5 v6 v14 wr => ∃ (k bw : Nat) (zs : List Nat), k ≤ n ∧ bw ≤ 1 ∧ v14 = .int .i64 k ∧ v6 = .int .i64 bw ∧ v5 = .slice (some ⟨w.heap.size, 0, none⟩) k n ∧ wr.ownsRow w.heap.size 85 1 (.slice (some ⟨w.heap.size, 0, none⟩) k n) k (vs zs) ∧ Bd zs ∧ Hid (val zs + val (ys.take k) = val (xs.take k) + 4294967296 ^ k * bw) ∧ Below w.heap.size w wr) (fun _ _ i _ => n - (intOf i).toNat)
  case atStart => exact ⟨0, 0, [], by omega, by omega, rfl, rfl, rfl, hown, Bd_nil, by simp [val, Hid], hb0⟩
  case round =>
    clear hown hb0
    obtain ⟨k, bw, zs, hk, hcy, rfl, rfl, rfl, hown, hbd, hv, hb⟩ := hrel
    by_cases hlt : k < n
    · obtain ⟨gx, ox, x, rfl, hgx, hxk', hxl, hcx⟩ := (hx.below hb (Nat.le_refl _)).cell hlt
      have hxk := Lib.hid hxk'
      clear hxk'
      by_cases hlm : k < m
      · obtain ⟨gy, oy, y, rfl, hgy, hyk', hyl, hcy'⟩ := (hy.below hb (Nat.le_refl _)).cell hlm
        have hyk := Lib.hid hyk'
        clear hyk'
        by_cases hd : (x : Int) - bw - y < 0
        · go_wp2_with (at_builtin; refine wpList_append_fits _ rfl _ _ 30 rfl w.heap.size 85 i0 1 Try.underlying30 hi hz1 w.heap.size k n (vs zs) rfl (hown.alloc _) ⟨wr.heap.size, 0, none⟩ 1 1 [_] rfl rfl (cell_one_new _ _ _) ?c1 (by omega) ?_; rotate_left 1; intro w2 hown2 hg2)
          case c1 => simp [Value.oneCell']
          go_roundw
          case rel => exact ⟨k + 1, 1, zs ++ [x + 4294967296 - bw - y], by omega, by omega, by go_num, rfl, rfl, own_snoc hown2 (by omega), Bd_snoc hbd (by omega), sub_step (own_len hown) hxk.out (val_take_succ _ _ _ hyk.out) (by omega) hv, (hb.alloc hb.size _).grown hg2 (by simp; have := hb.size; omega) (by intro q hq; cases hq; exact Nat.le_refl _)⟩
          case measure => simp [intOf]; omega
        · go_wp2_with (at_builtin; refine wpList_append_fits _ rfl _ _ 30 rfl w.heap.size 85 i0 1 Try.underlying30 hi hz1 w.heap.size k n (vs zs) rfl (hown.alloc _) ⟨wr.heap.size, 0, none⟩ 1 1 [_] rfl rfl (cell_one_new _ _ _) ?c1 (by omega) ?_; rotate_left 1; intro w2 hown2 hg2)
          case c1 => simp [Value.oneCell']
          go_roundw
          case rel => exact ⟨k + 1, 0, zs ++ [x - bw - y], by omega, by omega, by go_num, rfl, rfl, own_snoc hown2 (by omega), Bd_snoc hbd (by omega), sub_step (own_len hown) hxk.out (val_take_succ _ _ _ hyk.out) (by omega) hv, (hb.alloc hb.size _).grown hg2 (by simp; have := hb.size; omega) (by intro q hq; cases hq; exact Nat.le_refl _)⟩
          case measure => simp [intOf]; omega
      · have hyn := Lib.hid (take_past (ys := ys) (k := k) (by have := hy.1; omega))
        by_cases hd : (x : Int) - bw < 0
        · go_wp2_with (at_builtin; refine wpList_append_fits _ rfl _ _ 30 rfl w.heap.size 85 i0 1 Try.underlying30 hi hz1 w.heap.size k n (vs zs) rfl (hown.alloc _) ⟨wr.heap.size, 0, none⟩ 1 1 [_] rfl rfl (cell_one_new _ _ _) ?c1 (by omega) ?_; rotate_left 1; intro w2 hown2 hg2)
          case c1 => simp [Value.oneCell']
          go_roundw
          case rel => exact ⟨k + 1, 1, zs ++ [x + 4294967296 - bw], by omega, by omega, by go_num, rfl, rfl, own_snoc hown2 (by omega), Bd_snoc hbd (by omega), sub_step (own_len hown) hxk.out hyn.out (by omega) hv, (hb.alloc hb.size _).grown hg2 (by simp; have := hb.size; omega) (by intro q hq; cases hq; exact Nat.le_refl _)⟩
          case measure => simp [intOf]; omega
        · go_wp2_with (at_builtin; refine wpList_append_fits _ rfl _ _ 30 rfl w.heap.size 85 i0 1 Try.underlying30 hi hz1 w.heap.size k n (vs zs) rfl (hown.alloc _) ⟨wr.heap.size, 0, none⟩ 1 1 [_] rfl rfl (cell_one_new _ _ _) ?c1 (by omega) ?_; rotate_left 1; intro w2 hown2 hg2)
          case c1 => simp [Value.oneCell']
          go_roundw
          case rel => exact ⟨k + 1, 0, zs ++ [x - bw], by omega, by omega, by go_num, rfl, rfl, own_snoc hown2 (by omega), Bd_snoc hbd (by omega), sub_step (own_len hown) hxk.out hyn.out (by omega) hv, (hb.alloc hb.size _).grown hg2 (by simp; have := hb.size; omega) (by intro q hq; cases hq; exact Nat.le_refl _)⟩
          case measure => simp [intOf]; omega
    · have hk' : k = n := by omega
      subst hk'
      go_wp2
      go_ret
      have e : val zs + val ys = val xs := by
        have h2 := hv.out
        have h3 := own_len hown
        rw [List.take_of_length_le (by have := hy.1; omega), List.take_of_length_le (by have := hx.1; omega)] at h2
        exact sub_end h2 (by have := val_lt zs hbd; rwa [h3] at this) hle.out
      exact ⟨_, _, _, zs, rfl, U32.own hown hbd, e, by omega, hb⟩
def PWords (w : World) (n : Int) (e : Ending) (w' : World) : Prop :=
  ∃ A l c xs, e = .returned (.tuple #[.slice A l c, .bool (decide (n < 0))]) ∧ U32 w' A l c xs ∧ Tr xs ∧ val xs = n.natAbs ∧ Below w.heap.size w w'

set_option maxRecDepth 100000 in
set_option maxHeartbeats 2000000 in
theorem num_words (z : Zv) (n : Int) (w : World) (h : ZR w z n) :
    Calls Try.prog 66 #[.agg #[.int .i64 z.x, .slice z.A z.l z.c, .bool z.g]] w (PWords w n) := by
  have hu := Try.underlying45
  rcases h.cases3 with ⟨rfl, h1⟩ | ⟨g, o, c, xs, rfl, hU, hl, hv, hn, hs⟩ | ⟨g, o, c, xs, rfl, hU, hl, hv, hn, hs⟩
  · clear h
    rcases Int.lt_trichotomy n 0 with hn | rfl | hn
    · obtain ⟨u, rfl⟩ : ∃ u : Nat, n = -(u : Int) := ⟨n.natAbs, by omega⟩
      have hw := uneg u (by omega) h1
      have hU : Hid (u < 18446744073709551616) := by have := h1.1; show _ < _; omega
      clear h1
      have hb : decide (-(u : Int) < 0) = true := by simpa using hn
      have hz : ((u : Int) == 0) = false := by simp; omega
      by_cases hs : u < 4294967296
      · have hd : ((u : Int) / 4294967296 == 0) = true := by simp; omega
        go_enter Try.func66, Try.ntmps66
        go_wp2
        go_region
        go_wp2
        go_ret2
        exact ⟨some ⟨w.heap.size + 1, 0, none⟩, 1, 1, [u], (by rw [hb]; rfl), U32.drew (U32.new2 (xs := [u]) (by simp) rfl (by intro x hx; simp at hx; omega) (by simp)), (by simp [Tr]; omega), (by simp [val]), (((Below.refl _ _).alloc (Nat.le_refl _) _).alloc (by simp) _).drew⟩
      · have hd : ((u : Int) / 4294967296 == 0) = false := by simp; omega
        go_enter Try.func66, Try.ntmps66
        go_wp2
        go_region
        go_wp2
        go_ret2
        exact ⟨some ⟨w.heap.size + 1, 0, none⟩, 2, 2, [u % 4294967296, u / 4294967296], (by rw [hb]; rfl), U32.drew (U32.new2 (xs := [u % 4294967296, u / 4294967296]) (by simp) (two_cs hU) (two_bd hU) (by simp)), (by simp [Tr]; omega), (by simp [val]; omega), (((Below.refl _ _).alloc (Nat.le_refl _) _).alloc (by simp) _).drew⟩
    · go_enter Try.func66, Try.ntmps66
      go_wp2
      go_ret2
      exact ⟨none, 0, 0, [], rfl, U32.nil _, Tr_nil, rfl, (Below.refl _ _).alloc (Nat.le_refl _) _⟩
    · obtain ⟨u, rfl⟩ : ∃ u : Nat, n = (u : Int) := ⟨n.natAbs, by omega⟩
      have hw := upos u h1
      have hU : Hid (u < 18446744073709551616) := by have := h1.2; show _ < _; omega
      clear h1
      have hb : decide ((u : Int) < 0) = false := by simp
      have hz : ((u : Int) == 0) = false := by simp; omega
      by_cases hs : u < 4294967296
      · have hd : ((u : Int) / 4294967296 == 0) = true := by simp; omega
        go_enter Try.func66, Try.ntmps66
        go_wp2
        go_region
        go_wp2
        go_ret2
        exact ⟨some ⟨w.heap.size + 1, 0, none⟩, 1, 1, [u], (by rw [hb]; rfl), U32.drew (U32.new2 (xs := [u]) (by simp) rfl (by intro x hx; simp at hx; omega) (by simp)), (by simp [Tr]; omega), (by simp [val]), (((Below.refl _ _).alloc (Nat.le_refl _) _).alloc (by simp) _).drew⟩
      · have hd : ((u : Int) / 4294967296 == 0) = false := by simp; omega
        go_enter Try.func66, Try.ntmps66
        go_wp2
        go_region
        go_wp2
        go_ret2
        exact ⟨some ⟨w.heap.size + 1, 0, none⟩, 2, 2, [u % 4294967296, u / 4294967296], (by rw [hb]; rfl), U32.drew (U32.new2 (xs := [u % 4294967296, u / 4294967296]) (by simp) (two_cs hU) (two_bd hU) (by simp)), (by simp [Tr]; omega), (by simp [val]; omega), (((Below.refl _ _).alloc (Nat.le_refl _) _).alloc (by simp) _).drew⟩
  · clear h
    have hb : decide (n < 0) = false := by simp; omega
    go_enter Try.func66, Try.ntmps66
    go_wp2
    go_quiet (fail)
    go_wp2
    go_ret2
    exact ⟨_, _, _, xs, (by rw [hb]; rfl), U32.drewN (hU.below ((Below.refl _ _).alloc (Nat.le_refl _) _) (Nat.le_refl _)) _, hl, (by have := hn.out; omega), bdN ((Below.refl _ _).alloc (Nat.le_refl _) _) _⟩
  · clear h
    have hb : decide (n < 0) = true := by simp; omega
    go_enter Try.func66, Try.ntmps66
    go_wp2
    go_quiet (fail)
    go_wp2
    go_ret2
    exact ⟨_, _, _, xs, (by rw [hb]; rfl), U32.drewN (hU.below ((Below.refl _ _).alloc (Nat.le_refl _) _) (Nat.le_refl _)) _, hl, (by have := hn.out; omega), bdN ((Below.refl _ _).alloc (Nat.le_refl _) _) _⟩
def PZ (w : World) (n : Int) (e : Ending) (w' : World) : Prop :=
  ∃ z : Zv, e = .returned (.agg #[.int .i64 z.x, .slice z.A z.l z.c, .bool z.g]) ∧ ZR w' z n ∧ Below w.heap.size w w'

set_option maxRecDepth 100000 in
set_option maxHeartbeats 1000000 in
theorem num_made (A : Option Addr) (n c : Nat) (s : Bool) (xs : List Nat) (w : World) (hx : U32 w A n c xs) (hn : n ≤ 1000000) (v : Int) (hvs : Hid (v = if s then -(val xs : Int) else (val xs : Int))) :
    Calls Try.prog 67 #[.slice A n c, .bool s] w (PZ w v) := by
  have hu := Try.underlying45
  go_enter Try.func67, Try.ntmps67
  go_upto_block 0 with (fail)
  go_cut [0] (fun v0 wr => ∃ (k : Nat), k ≤ n ∧ v0 = .slice A k c ∧ Hid (val (xs.take k) = val xs) ∧ Tr (xs.take k) ∧ Hid (Blk wr w.heap.size 45 #[.int .i64 0, .slice none 0 0, .bool false]) ∧ Below w.heap.size w wr)
  case first =>
    go_wp2_with fail
    go_loopw [0] (fun v0 wr => ∃ (k : Nat), k ≤ n ∧ v0 = .slice A k c ∧ Hid (val (xs.take k) = val xs) ∧ Hid (Blk wr w.heap.size 45 #[.int .i64 0, .slice none 0 0, .bool false]) ∧ Below w.heap.size w wr) (fun v _ => lenOf v)
    case atStart => exact ⟨n, Nat.le_refl _, rfl, by show _ = _; rw [List.take_of_length_le (by have := hx.1; omega)], Blk.new _ _ _, (Below.refl _ _).alloc (Nat.le_refl _) _⟩
    case round =>
      obtain ⟨k, hk, rfl, hv, hB, hb⟩ := hrel
      have hnc := hx.2.2.1
      rcases Nat.eq_zero_or_pos k with rfl | h0
      · go_wp2
        go_meet
        exact ⟨0, by omega, rfl, hv, by simp [Tr], hB, hb⟩
      · obtain ⟨gx, ox, x, rfl, hgx, hxk', hxl, hcx⟩ := (hx.below hb (Nat.le_refl _)).cell (k := k - 1) (by omega)
        have hxk := Lib.hid hxk'
        clear hxk'
        by_cases h1 : x = 0
        · subst h1
          go_wp2
          go_roundw
          case rel => exact ⟨k - 1, by omega, rfl, trim_step h0 hxk.out hv, hB, hb⟩
          case measure => simp only [lenOf]; omega
        · have h2 : ((x : Int) == 0) = false := by simp; omega
          go_wp2
          go_meet
          exact ⟨k, hk, rfl, hv, trim_stop h0 hxk.out h1, hB, hb⟩
  case rest =>
    obtain ⟨k, hk, rfl, hv, ht, hB, hb⟩ := hcut
    by_cases h2 : k ≤ 2
    · go_wp2_with fail
      go_loopw [5, 6] (fun v5 v6 wr => ∃ j : Int, -1 ≤ j ∧ j < k ∧ v6 = .int .i64 j ∧ v5 = .int .u64 (val ((xs.take k).drop (j + 1).toNat)) ∧ wr = wc) (fun _ i _ => (intOf i + 1).toNat)
      case atStart => exact ⟨(k : Int) - 1, by omega, by omega, rfl, by rw [List.drop_of_length_le (by rw [List.length_take]; omega)]; rfl, rfl⟩
      case round =>
        obtain ⟨j, hj0, hjk, rfl, rfl, rfl⟩ := hrel
        by_cases hj : 0 ≤ j
        · obtain ⟨i, rfl⟩ := Int.eq_ofNat_of_zero_le hj
          obtain ⟨gx, ox, x, rfl, hgx, hxk', hxl, hcx⟩ := (hx.below hb (Nat.le_refl _)).cell (k := i) (by omega)
          have hxk := Lib.hid hxk'
          clear hxk'
          go_wp2
          go_roundw
          case rel => exact ⟨(i : Int) - 1, by omega, by omega, rfl, by rw [show ((i : Int) - 1 + 1).toNat = i by omega]; exact congrArg _ (or_step (Bd_take hx.2.1 k) (by rw [List.getElem?_take]; rw [if_pos (by omega)]; exact hxk.out) (by rw [List.length_take]; omega)), trivial⟩
          case measure => simp [intOf] <;> omega
        · have : j = -1 := by omega
          subst this
          generalize hV : val (List.drop ((-1 : Int) + 1).toNat (List.take k xs)) = V
          have hV : Hid (V = val xs) := by have := hv.out; show _ = _; rw [← this, ← hV]; rfl
          by_cases hsm : V < 9223372036854775808
          · have hd : decide ((V : Int) < 9223372036854775808) = true := by simp; omega
            have hw := i64_small V hsm
            have hw2 := i64_small_neg V hsm
            have h64 := In64_of V hsm
            clear hsm
            have hc0 := hB.out.cell 0
            have hc1 := hB.out.cell 1
            have hc2 := hB.out.cell 2
            have hf0 := hB.out.frozen 0
            have hf1 := hB.out.frozen 1
            have hf2 := hB.out.frozen 2
            simp at hc0 hc1 hc2
            rcases s with _ | _
            · go_wp2
              refine bodyPost_ret (v := .agg #[.int .i64 (V : Int), .slice none 0 0, .bool false]) (by simp [results, Try.results67, go_sem, hc0, hc1, hc2, hf0, hf1, hf2]) rfl ⟨⟨(V : Int), none, 0, 0, false⟩, rfl, ZR.small (by have h1 := hvs.out; have h2 := hV.out; simp at h1; omega) h64.1, ((hb.setCell (Nat.le_refl _) _).setCell (Nat.le_refl _) _).setCell (Nat.le_refl _) _⟩
            · go_wp2
              refine bodyPost_ret (v := .agg #[.int .i64 (-(V : Int)), .slice none 0 0, .bool false]) (by simp [results, Try.results67, go_sem, hc0, hc1, hc2, hf0, hf1, hf2]) rfl ⟨⟨(-(V : Int)), none, 0, 0, false⟩, rfl, ZR.small (by have h1 := hvs.out; have h2 := hV.out; simp at h1; omega) h64.2, ((hb.setCell (Nat.le_refl _) _).setCell (Nat.le_refl _) _).setCell (Nat.le_refl _) _⟩
          · have hd : decide ((V : Int) < 9223372036854775808) = false := by simp; omega
            have hbig : Hid (9223372036854775808 ≤ val (xs.take k)) := by have h1 := hV.out; have h2 := hv.out; show _ ≤ _; omega
            clear hsm
            have hc0 := hB.out.cell 0
            have hc1 := hB.out.cell 1
            have hc2 := hB.out.cell 2
            have hf0 := hB.out.frozen 0
            have hf1 := hB.out.frozen 1
            have hf2 := hB.out.frozen 2
            simp at hc0 hc1 hc2
            go_wp2
            refine bodyPost_ret (v := .agg #[.int .i64 0, .slice A k c, .bool s]) (by simp [results, Try.results67, go_sem, hc0, hc1, hc2, hf0, hf1, hf2]) rfl ⟨⟨0, A, k, c, s⟩, rfl, ZR.large ((hx.take hk).below (((hb.setCell (Nat.le_refl _) _).setCell (Nat.le_refl _) _).setCell (Nat.le_refl _) _) (Nat.le_refl _)) ht hbig.out (by have h1 := hvs.out; have h2 := hv.out; rw [h2]; exact h1), ((hb.setCell (Nat.le_refl _) _).setCell (Nat.le_refl _) _).setCell (Nat.le_refl _) _⟩
    · have hbig : Hid (9223372036854775808 ≤ val (xs.take k)) := ht.big (by rw [List.length_take]; have := hx.1; omega)
      have hc0 := hB.out.cell 0
      have hc1 := hB.out.cell 1
      have hc2 := hB.out.cell 2
      have hf0 := hB.out.frozen 0
      have hf1 := hB.out.frozen 1
      have hf2 := hB.out.frozen 2
      simp at hc0 hc1 hc2
      go_wp2
      refine bodyPost_ret (v := .agg #[.int .i64 0, .slice A k c, .bool s]) (by simp [results, Try.results67, go_sem, hc0, hc1, hc2, hf0, hf1, hf2]) rfl ⟨⟨0, A, k, c, s⟩, rfl, ZR.large ((hx.take hk).below (((hb.setCell (Nat.le_refl _) _).setCell (Nat.le_refl _) _).setCell (Nat.le_refl _) _) (Nat.le_refl _)) ht hbig.out (by have h1 := hvs.out; have h2 := hv.out; rw [h2]; exact h1), ((hb.setCell (Nat.le_refl _) _).setCell (Nat.le_refl _) _).setCell (Nat.le_refl _) _⟩
end Go.Proofs.Ytgoojlnfobjplaa
