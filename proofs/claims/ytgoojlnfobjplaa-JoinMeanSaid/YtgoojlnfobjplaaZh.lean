import Derived.Test.YtgoojlnfobjplaaZg
import Derived.Test.YtgoojlnfobjplaaShelf
namespace Go.Proofs.Ytgoojlnfobjplaa
open Go.RowKit
set_option linter.unusedSimpArgs false
set_option linter.unusedVariables false
attribute [local go_sem] qn30 qe30

theorem unegI (n : Int) (h0 : n < 0) (h : In64 n) : IntKind.u64.wrap (-IntKind.u64.wrap n) = (n.natAbs : Int) := by
  unfold In64 at h
  rw [IntKind.wrap_u64, IntKind.wrap_u64]
  omega
theorem uposI (n : Int) (h0 : 0 ≤ n) (h : In64 n) : IntKind.u64.wrap n = (n.natAbs : Int) := by
  unfold In64 at h
  rw [IntKind.wrap_u64]
  omega
theorem am_nn {n m : Int} (hn : n < 0) (hm : m < 0) : Hid (n * m = ((n.natAbs * m.natAbs : Nat) : Int)) := by
  show _ = _
  rw [Int.natCast_mul, show (n.natAbs : Int) = -n by omega, show (m.natAbs : Int) = -m by omega]
  grind
theorem am_np {n m : Int} (hn : n < 0) (hm : 0 ≤ m) : Hid (n * m = -((n.natAbs * m.natAbs : Nat) : Int)) := by
  show _ = _
  rw [Int.natCast_mul, show (n.natAbs : Int) = -n by omega, show (m.natAbs : Int) = m by omega]
  grind
theorem am_pn {n m : Int} (hn : 0 ≤ n) (hm : m < 0) : Hid (n * m = -((n.natAbs * m.natAbs : Nat) : Int)) := by
  show _ = _
  rw [Int.natCast_mul, show (n.natAbs : Int) = n by omega, show (m.natAbs : Int) = -m by omega]
  grind
theorem am_pp {n m : Int} (hn : 0 ≤ n) (hm : 0 ≤ m) : Hid (n * m = ((n.natAbs * m.natAbs : Nat) : Int)) := by
  show _ = _
  rw [Int.natCast_mul, show (n.natAbs : Int) = n by omega, show (m.natAbs : Int) = m by omega]

theorem mul64_big (u v : Nat) (hu : Hid (u < 18446744073709551616)) (hv : Hid (v < 18446744073709551616)) (hb : Hid (9223372036854775808 ≤ u * v)) (w : World) :
    Calls Try.prog 74 #[.int .u64 u, .int .u64 v] w fun e w' => ∃ hi lo : Nat, e = .returned (.tuple #[.int .u64 hi, .int .u64 lo]) ∧ w' = w ∧ Hid (((hi : Int) == 0) = false ∨ (hi = 0 ∧ decide ((lo : Int) < 9223372036854775808) = false)) := by
  refine (Try.bits_Mul64 u v hu.out hv.out w).mono ?_
  rintro e w' ⟨rfl, rfl⟩
  refine ⟨_, _, rfl, rfl, ?_⟩
  have h := hb.out
  show _ ∨ _
  generalize u * v = p at *
  by_cases h0 : p / 18446744073709551616 = 0
  · refine .inr ⟨h0, ?_⟩
    simp
    omega
  · refine .inl ?_
    simp
    omega
theorem mul64_small (u v : Nat) (hu : Hid (u < 18446744073709551616)) (hv : Hid (v < 18446744073709551616)) (hb : Hid (u * v < 9223372036854775808)) (w : World) :
    Calls Try.prog 74 #[.int .u64 u, .int .u64 v] w fun e w' => ∃ p : Nat, e = .returned (.tuple #[.int .u64 0, .int .u64 p]) ∧ w' = w ∧ decide ((p : Int) < 9223372036854775808) = true ∧ IntKind.i64.wrap (p : Int) = p ∧ IntKind.i64.wrap (-(p : Int)) = -(p : Int) ∧ Hid (p = u * v ∧ p < 9223372036854775808) := by
  refine (Try.bits_Mul64 u v hu.out hv.out w).mono ?_
  rintro e w' ⟨rfl, rfl⟩
  have h := hb.out
  refine ⟨u * v, ?_, rfl, ?_, i64_small _ h, i64_small_neg _ h, ⟨rfl, h⟩⟩
  · generalize u * v = p at *
    have e1 : p / 18446744073709551616 = 0 := by omega
    have e2 : p % 18446744073709551616 = p := by omega
    rw [e1, e2]
    rfl
  · generalize u * v = p at *
    simp
    omega

set_option maxRecDepth 100000 in
set_option maxHeartbeats 8000000 in
theorem num_Mul3nn (z y : Zv) (n m : Int) (w : World) (hz : ZR w z n) (hy : ZR w y m) (hF : Fit n) (hG : Fit m) (h1 : z.A.isNone = true) (h2 : y.A.isNone = true) (u v : Nat) (hu64 : Hid (u < 18446744073709551616)) (hv64 : Hid (v < 18446744073709551616)) (hbig : Hid (9223372036854775808 ≤ u * v)) (hzn : decide (z.x < 0) = true) (hzw : IntKind.u64.wrap (-IntKind.u64.wrap z.x) = (u : Int)) (hyn : decide (y.x < 0) = true) (hyw : IntKind.u64.wrap (-IntKind.u64.wrap y.x) = (v : Int)) :
    Calls Try.prog 48 #[.agg #[.int .i64 z.x, .slice z.A z.l z.c, .bool z.g], .agg #[.int .i64 y.x, .slice y.A y.l y.c, .bool y.g]] w (PZ w (n * m)) := by
  have hu := Try.underlying45
  obtain ⟨i0, hi, hz0', hz1', hz2'⟩ := info_parts info32
  have hO0 := Lib.hid (Own.three w 45 45 45 #[.int .i64 z.x, .slice z.A z.l z.c, .bool z.g] #[.int .i64 y.x, .slice y.A y.l y.c, .bool y.g] #[.int .i64 0, .slice none 0 0, .bool false])
  go_enter Try.func48, Try.ntmps48
  go_upto_if 25 with (fail)
  go_cut [5] (fun v5 wc => Hid (Own w [(45, #[.int .i64 z.x, .slice z.A z.l z.c, .bool z.g]), (45, #[.int .i64 y.x, .slice y.A y.l y.c, .bool y.g]), (45, #[.int .i64 0, .slice none 0 0, .bool false])] wc))
  case first =>
    go_wp2_with fail
    go_quiet (fail)
    go_wp2_with fail
    refine (mul64_big u v hu64 hv64 hbig _).mono ?_
    rintro e w' ⟨hi', lo, rfl, rfl, hd⟩
    rcases hd.out with h0 | ⟨rfl, h0⟩
    · go_wp2_with fail
      go_meet
      exact Lib.hid (hO0.out.drewN _)
    · go_wp2_with fail
      go_meet
      exact Lib.hid (hO0.out.drewN _)
  case rest =>
    have hO := Lib.hid hcut.out
    clear hcut
    obtain ⟨hz0, hz1, hz2, -, -, -⟩ := blk3 hO.out.b0
    go_wp2_with fail
    refine (num_words z n _ (hO.out.zr hz)).mono ?_
    rintro e w1 ⟨A, l, c, xs, rfl, hU, hT, hv, hb1⟩
    have hlA := hF.len hU hT hv
    have hv1 := Lib.hid hv
    have hO1 := Lib.hid (hO.out.call hb1)
    obtain ⟨hy0, hy1, hy2, -, -, -⟩ := blk3 hO1.out.b1
    clear hv hb1 hz0 hz1 hz2
    go_wp2_with fail
    refine (num_words y m _ (hO1.out.zr hy)).mono ?_
    rintro e w2 ⟨B, k, d, ys, rfl, hV, hT2, hv, hb2⟩
    have hlB := hG.len hV hT2 hv
    have hv2 := Lib.hid hv
    have hO2 := Lib.hid (hO1.out.call hb2)
    have hU2 := hU.below hb2 (Nat.le_refl _)
    clear hv hb2 hU hy0 hy1 hy2
    go_wp2_with (at_make; refine wpList_make_full _ rfl _ _ 30 rfl w2.heap.size 85 i0 (.int .u32 0) 1 Try.underlying30 hi hz0' hz1' .i64 .i64 _ _ (l + k) rfl rfl ?c1 ?c1' ?c2 ?c3 ?c4 ?_; rotate_left 5; intro w3 hown hg1)
    case c1 => simp
    case c1' => simp
    case c2 => rw [hz2']; omega
    case c3 => simp [maxLen]; omega
    case c4 => exact Nat.le_refl _
    have hb0 : Below w2.heap.size w2 w3 := (Below.refl _ _).grown hg1 (Nat.le_refl _) (by intro k hk; cases hk)
    rw [made_zeros] at hown
    have hlx := hU2.1
    have hly := hV.1
    have hlx := Lib.hid hlx
    have hly := Lib.hid hly
    clear hg1
    go_loopw [86] (fun v86 wr => ∃ (i : Nat) (L : List Nat), i ≤ l ∧ v86 = .int .i64 i ∧ wr.ownsRow w2.heap.size 85 1 (.slice (some ⟨w2.heap.size, 0, none⟩) (l + k) (l + k)) (l + k) (vs L) ∧ Bd L ∧ MulOut L xs ys i ∧ Below w2.heap.size w2 wr) (fun i _ => l - (intOf i).toNat)
    case atStart => exact ⟨0, _, by omega, rfl, hown, Bd_zeros _, by have := MulOut.start xs ys; rwa [hlx.out, hly.out] at this, hb0⟩
    case round =>
      clear hown hb0
      obtain ⟨i, L, hil, rfl, hown, hbd, hM, hb⟩ := hrel
      obtain ⟨wo, rfl⟩ : ∃ wo : World, wo = wr := ⟨_, rfl⟩
      by_cases hlt : i < l
      · obtain ⟨gx, ox, x, rfl, hgx, hxk', hxl, hcx⟩ := (hU2.below hb (Nat.le_refl _)).cell hlt
        have hxk := Lib.hid hxk'
        clear hxk' hcx hgx
        go_wp2_with fail
        go_loopw [15, 91] (fun v15 v91 wq => ∃ (j cy : Nat) (M : List Nat), j ≤ k ∧ cy < 4294967296 ∧ v91 = .int .i64 j ∧ v15 = .int .u64 cy ∧ wq.ownsRow w2.heap.size 85 1 (.slice (some ⟨w2.heap.size, 0, none⟩) (l + k) (l + k)) (l + k) (vs M) ∧ Bd M ∧ MulIn L M i x ys j cy ∧ Below w2.heap.size w2 wq) (fun _ j _ => k - (intOf j).toNat)
        case atStart => exact ⟨0, 0, L, by omega, by omega, rfl, rfl, hown, hbd, MulIn.start _ _ _ _, hb⟩
        case round =>
          clear hown hbd hb
          obtain ⟨j, cy, M, hjk, hcy, rfl, rfl, hown, hbd, hI, hb⟩ := hrel
          by_cases hlj : j < k
          · obtain ⟨gx', ox', x', hA', hgx, hxk', hxl', hcx⟩ := (hU2.below hb (Nat.le_refl _)).cell hlt
            obtain ⟨rfl, rfl⟩ : gx = gx' ∧ ox = ox' := by simpa using hA'
            obtain rfl : x' = x := by have h1 := hxk.out; rw [hxk'] at h1; injection h1
            clear hxk' hA' hxl'
            obtain ⟨gy, oy, y', rfl, hgy, hyk', hyl, hcy'⟩ := (hV.below hb (Nat.le_refl _)).cell hlj
            have hyk := Lib.hid hyk'
            clear hyk'
            obtain ⟨o, ho', hco⟩ := row_cell hown (k := i + j) (by omega)
            have hol : o < 4294967296 := hbd _ (List.mem_of_getElem? ho')
            have ho := Lib.hid ho'
            clear ho'
            have hfr := hown.frozenAt (i + j)
            obtain ⟨q1, q2, q3⟩ := mul_wraps hol hxl hyl hcy
            have hcb := Lib.hid (carry_bd hol hxl hyl hcy)
            go_wp2_with fail
            go_quiet (fail)
            go_wp2_with fail
            go_roundw
            case rel => exact ⟨j + 1, (o + x' * y' + cy) / 4294967296, M.set (i + j) ((o + x' * y' + cy) % 4294967296), by omega, by have := hcb.out; omega, by go_num, mul_q o x' y' cy, row_set (row_drewN hown _) (i + j) _ (mul_r o x' y' cy), Bd_set hbd (by omega), hI.step ho.out hyk.out, (bdN hb _).setCell (Nat.le_refl _) _⟩
            case measure => simp [intOf]; omega
          · have : j = k := by omega
            subst this
            obtain ⟨o, ho', hco⟩ := row_cell hown (k := i + j) (by omega)
            have hfr := hown.frozenAt (i + j)
            clear ho'
            go_wp2_with fail
            go_roundw
            case rel => exact ⟨i + 1, M.set (i + j) cy, by omega, by go_num, row_set hown (i + j) cy rfl, Bd_set hbd hcy, by have h1 := hlx.out; have h2 := hly.out; have := MulOut.step (c := cy) (L := M) hM hxk.out (by rwa [h2]); rwa [h2] at this, hb.setCell (Nat.le_refl _) _⟩
            case measure => simp [intOf]; omega
      · have : i = l := by omega
        subst this
        have hO3 := Lib.hid (hO2.out.call hb)
        have hR := U32.own hown hbd
        have hvL := Lib.hid hM.1
        clear hown hM hb
        go_wp2_with fail
        refine (num_made _ (i + k) (i + k) _ L _ hR (by omega) (n * m) ?_).mono ?_
        · have h1 := hv1.out
          have h2 := hv2.out
          have h3 := hvL.out
          have h4 := hlx.out
          rw [List.take_of_length_le (by omega)] at h3
          exact mul_sign h1 h2 h3
        rintro e w6 ⟨z6, rfl, hz6, hb6⟩
        have hO4 := Lib.hid (hO3.out.call hb6)
        obtain ⟨hc0, hc1, hc2, hf0, hf1, hf2⟩ := blk3 hO4.out.b2
        clear hb6
        go_wp2_with fail
        refine bodyPost_ret (v := .agg #[.int .i64 z6.x, .slice z6.A z6.l z6.c, .bool z6.g]) (by simp [results, Try.results48, go_sem, hc0, hc1, hc2, hf0, hf1, hf2]) rfl ⟨z6, rfl, hz6.set (NoW.z (hO4.out).b2) (SetB.set3 _ _ _ _ _ _ _ _), (hO4.out).set3 2 _ _ _ _ _ _⟩

set_option maxRecDepth 100000 in
set_option maxHeartbeats 8000000 in
theorem num_MulFnn (z y : Zv) (n : Int) (w : World) (h1 : z.A.isNone = true) (h2 : y.A.isNone = true) (u v : Nat) (hu64 : Hid (u < 18446744073709551616)) (hv64 : Hid (v < 18446744073709551616)) (hsm : Hid (u * v < 9223372036854775808)) (hzn : decide (z.x < 0) = true) (hzw : IntKind.u64.wrap (-IntKind.u64.wrap z.x) = (u : Int)) (hyn : decide (y.x < 0) = true) (hyw : IntKind.u64.wrap (-IntKind.u64.wrap y.x) = (v : Int)) (hn : Hid (n = ((u * v : Nat) : Int))) :
    Calls Try.prog 48 #[.agg #[.int .i64 z.x, .slice z.A z.l z.c, .bool z.g], .agg #[.int .i64 y.x, .slice y.A y.l y.c, .bool y.g]] w (PZ w n) := by
  have hu := Try.underlying45
  have hO0 := Lib.hid (Own.three w 45 45 45 #[.int .i64 z.x, .slice z.A z.l z.c, .bool z.g] #[.int .i64 y.x, .slice y.A y.l y.c, .bool y.g] #[.int .i64 0, .slice none 0 0, .bool false])
  go_enter Try.func48, Try.ntmps48
  go_wp2_with fail
  go_quiet (fail)
  go_wp2_with fail
  refine (mul64_small u v hu64 hv64 hsm _).mono ?_
  rintro e w' ⟨p, rfl, rfl, hd, hp1, hp2, hp⟩
  have hO1 := Lib.hid (hO0.out.drewN nq)
  obtain ⟨hc0, hc1, hc2, hf0, hf1, hf2⟩ := blk3 hO1.out.b2
  go_wp2_with fail
  have h64 := In64_of p hp.out.2
  refine bodyPost_ret (v := .agg #[.int .i64 (p : Int), .slice none 0 0, .bool false]) (by simp [results, Try.results48, go_sem, hc0, hc1, hc2, hf0, hf1, hf2]) rfl ⟨⟨(p : Int), none, 0, 0, false⟩, rfl, ZR.small (by have h1 := hn.out; have h2 := hp.out.1; rw [h1, h2]) h64.1, hO1.out.set3 2 _ _ _ _ _ _⟩

set_option maxRecDepth 100000 in
set_option maxHeartbeats 8000000 in
theorem num_Mul3np (z y : Zv) (n m : Int) (w : World) (hz : ZR w z n) (hy : ZR w y m) (hF : Fit n) (hG : Fit m) (h1 : z.A.isNone = true) (h2 : y.A.isNone = true) (u v : Nat) (hu64 : Hid (u < 18446744073709551616)) (hv64 : Hid (v < 18446744073709551616)) (hbig : Hid (9223372036854775808 ≤ u * v)) (hzn : decide (z.x < 0) = true) (hzw : IntKind.u64.wrap (-IntKind.u64.wrap z.x) = (u : Int)) (hyn : decide (y.x < 0) = false) (hyw : IntKind.u64.wrap y.x = (v : Int)) :
    Calls Try.prog 48 #[.agg #[.int .i64 z.x, .slice z.A z.l z.c, .bool z.g], .agg #[.int .i64 y.x, .slice y.A y.l y.c, .bool y.g]] w (PZ w (n * m)) := by
  have hu := Try.underlying45
  obtain ⟨i0, hi, hz0', hz1', hz2'⟩ := info_parts info32
  have hO0 := Lib.hid (Own.three w 45 45 45 #[.int .i64 z.x, .slice z.A z.l z.c, .bool z.g] #[.int .i64 y.x, .slice y.A y.l y.c, .bool y.g] #[.int .i64 0, .slice none 0 0, .bool false])
  go_enter Try.func48, Try.ntmps48
  go_upto_if 25 with (fail)
  go_cut [5] (fun v5 wc => Hid (Own w [(45, #[.int .i64 z.x, .slice z.A z.l z.c, .bool z.g]), (45, #[.int .i64 y.x, .slice y.A y.l y.c, .bool y.g]), (45, #[.int .i64 0, .slice none 0 0, .bool false])] wc))
  case first =>
    go_wp2_with fail
    go_quiet (fail)
    go_wp2_with fail
    refine (mul64_big u v hu64 hv64 hbig _).mono ?_
    rintro e w' ⟨hi', lo, rfl, rfl, hd⟩
    rcases hd.out with h0 | ⟨rfl, h0⟩
    · go_wp2_with fail
      go_meet
      exact Lib.hid (hO0.out.drewN _)
    · go_wp2_with fail
      go_meet
      exact Lib.hid (hO0.out.drewN _)
  case rest =>
    have hO := Lib.hid hcut.out
    clear hcut
    obtain ⟨hz0, hz1, hz2, -, -, -⟩ := blk3 hO.out.b0
    go_wp2_with fail
    refine (num_words z n _ (hO.out.zr hz)).mono ?_
    rintro e w1 ⟨A, l, c, xs, rfl, hU, hT, hv, hb1⟩
    have hlA := hF.len hU hT hv
    have hv1 := Lib.hid hv
    have hO1 := Lib.hid (hO.out.call hb1)
    obtain ⟨hy0, hy1, hy2, -, -, -⟩ := blk3 hO1.out.b1
    clear hv hb1 hz0 hz1 hz2
    go_wp2_with fail
    refine (num_words y m _ (hO1.out.zr hy)).mono ?_
    rintro e w2 ⟨B, k, d, ys, rfl, hV, hT2, hv, hb2⟩
    have hlB := hG.len hV hT2 hv
    have hv2 := Lib.hid hv
    have hO2 := Lib.hid (hO1.out.call hb2)
    have hU2 := hU.below hb2 (Nat.le_refl _)
    clear hv hb2 hU hy0 hy1 hy2
    go_wp2_with (at_make; refine wpList_make_full _ rfl _ _ 30 rfl w2.heap.size 85 i0 (.int .u32 0) 1 Try.underlying30 hi hz0' hz1' .i64 .i64 _ _ (l + k) rfl rfl ?c1 ?c1' ?c2 ?c3 ?c4 ?_; rotate_left 5; intro w3 hown hg1)
    case c1 => simp
    case c1' => simp
    case c2 => rw [hz2']; omega
    case c3 => simp [maxLen]; omega
    case c4 => exact Nat.le_refl _
    have hb0 : Below w2.heap.size w2 w3 := (Below.refl _ _).grown hg1 (Nat.le_refl _) (by intro k hk; cases hk)
    rw [made_zeros] at hown
    have hlx := hU2.1
    have hly := hV.1
    have hlx := Lib.hid hlx
    have hly := Lib.hid hly
    clear hg1
    go_loopw [86] (fun v86 wr => ∃ (i : Nat) (L : List Nat), i ≤ l ∧ v86 = .int .i64 i ∧ wr.ownsRow w2.heap.size 85 1 (.slice (some ⟨w2.heap.size, 0, none⟩) (l + k) (l + k)) (l + k) (vs L) ∧ Bd L ∧ MulOut L xs ys i ∧ Below w2.heap.size w2 wr) (fun i _ => l - (intOf i).toNat)
    case atStart => exact ⟨0, _, by omega, rfl, hown, Bd_zeros _, by have := MulOut.start xs ys; rwa [hlx.out, hly.out] at this, hb0⟩
    case round =>
      clear hown hb0
      obtain ⟨i, L, hil, rfl, hown, hbd, hM, hb⟩ := hrel
      obtain ⟨wo, rfl⟩ : ∃ wo : World, wo = wr := ⟨_, rfl⟩
      by_cases hlt : i < l
      · obtain ⟨gx, ox, x, rfl, hgx, hxk', hxl, hcx⟩ := (hU2.below hb (Nat.le_refl _)).cell hlt
        have hxk := Lib.hid hxk'
        clear hxk' hcx hgx
        go_wp2_with fail
        go_loopw [15, 91] (fun v15 v91 wq => ∃ (j cy : Nat) (M : List Nat), j ≤ k ∧ cy < 4294967296 ∧ v91 = .int .i64 j ∧ v15 = .int .u64 cy ∧ wq.ownsRow w2.heap.size 85 1 (.slice (some ⟨w2.heap.size, 0, none⟩) (l + k) (l + k)) (l + k) (vs M) ∧ Bd M ∧ MulIn L M i x ys j cy ∧ Below w2.heap.size w2 wq) (fun _ j _ => k - (intOf j).toNat)
        case atStart => exact ⟨0, 0, L, by omega, by omega, rfl, rfl, hown, hbd, MulIn.start _ _ _ _, hb⟩
        case round =>
          clear hown hbd hb
          obtain ⟨j, cy, M, hjk, hcy, rfl, rfl, hown, hbd, hI, hb⟩ := hrel
          by_cases hlj : j < k
          · obtain ⟨gx', ox', x', hA', hgx, hxk', hxl', hcx⟩ := (hU2.below hb (Nat.le_refl _)).cell hlt
            obtain ⟨rfl, rfl⟩ : gx = gx' ∧ ox = ox' := by simpa using hA'
            obtain rfl : x' = x := by have h1 := hxk.out; rw [hxk'] at h1; injection h1
            clear hxk' hA' hxl'
            obtain ⟨gy, oy, y', rfl, hgy, hyk', hyl, hcy'⟩ := (hV.below hb (Nat.le_refl _)).cell hlj
            have hyk := Lib.hid hyk'
            clear hyk'
            obtain ⟨o, ho', hco⟩ := row_cell hown (k := i + j) (by omega)
            have hol : o < 4294967296 := hbd _ (List.mem_of_getElem? ho')
            have ho := Lib.hid ho'
            clear ho'
            have hfr := hown.frozenAt (i + j)
            obtain ⟨q1, q2, q3⟩ := mul_wraps hol hxl hyl hcy
            have hcb := Lib.hid (carry_bd hol hxl hyl hcy)
            go_wp2_with fail
            go_quiet (fail)
            go_wp2_with fail
            go_roundw
            case rel => exact ⟨j + 1, (o + x' * y' + cy) / 4294967296, M.set (i + j) ((o + x' * y' + cy) % 4294967296), by omega, by have := hcb.out; omega, by go_num, mul_q o x' y' cy, row_set (row_drewN hown _) (i + j) _ (mul_r o x' y' cy), Bd_set hbd (by omega), hI.step ho.out hyk.out, (bdN hb _).setCell (Nat.le_refl _) _⟩
            case measure => simp [intOf]; omega
          · have : j = k := by omega
            subst this
            obtain ⟨o, ho', hco⟩ := row_cell hown (k := i + j) (by omega)
            have hfr := hown.frozenAt (i + j)
            clear ho'
            go_wp2_with fail
            go_roundw
            case rel => exact ⟨i + 1, M.set (i + j) cy, by omega, by go_num, row_set hown (i + j) cy rfl, Bd_set hbd hcy, by have h1 := hlx.out; have h2 := hly.out; have := MulOut.step (c := cy) (L := M) hM hxk.out (by rwa [h2]); rwa [h2] at this, hb.setCell (Nat.le_refl _) _⟩
            case measure => simp [intOf]; omega
      · have : i = l := by omega
        subst this
        have hO3 := Lib.hid (hO2.out.call hb)
        have hR := U32.own hown hbd
        have hvL := Lib.hid hM.1
        clear hown hM hb
        go_wp2_with fail
        refine (num_made _ (i + k) (i + k) _ L _ hR (by omega) (n * m) ?_).mono ?_
        · have h1 := hv1.out
          have h2 := hv2.out
          have h3 := hvL.out
          have h4 := hlx.out
          rw [List.take_of_length_le (by omega)] at h3
          exact mul_sign h1 h2 h3
        rintro e w6 ⟨z6, rfl, hz6, hb6⟩
        have hO4 := Lib.hid (hO3.out.call hb6)
        obtain ⟨hc0, hc1, hc2, hf0, hf1, hf2⟩ := blk3 hO4.out.b2
        clear hb6
        go_wp2_with fail
        refine bodyPost_ret (v := .agg #[.int .i64 z6.x, .slice z6.A z6.l z6.c, .bool z6.g]) (by simp [results, Try.results48, go_sem, hc0, hc1, hc2, hf0, hf1, hf2]) rfl ⟨z6, rfl, hz6.set (NoW.z (hO4.out).b2) (SetB.set3 _ _ _ _ _ _ _ _), (hO4.out).set3 2 _ _ _ _ _ _⟩

set_option maxRecDepth 100000 in
set_option maxHeartbeats 8000000 in
theorem num_MulFnp (z y : Zv) (n : Int) (w : World) (h1 : z.A.isNone = true) (h2 : y.A.isNone = true) (u v : Nat) (hu64 : Hid (u < 18446744073709551616)) (hv64 : Hid (v < 18446744073709551616)) (hsm : Hid (u * v < 9223372036854775808)) (hzn : decide (z.x < 0) = true) (hzw : IntKind.u64.wrap (-IntKind.u64.wrap z.x) = (u : Int)) (hyn : decide (y.x < 0) = false) (hyw : IntKind.u64.wrap y.x = (v : Int)) (hn : Hid (n = (-((u * v : Nat) : Int)))) :
    Calls Try.prog 48 #[.agg #[.int .i64 z.x, .slice z.A z.l z.c, .bool z.g], .agg #[.int .i64 y.x, .slice y.A y.l y.c, .bool y.g]] w (PZ w n) := by
  have hu := Try.underlying45
  have hO0 := Lib.hid (Own.three w 45 45 45 #[.int .i64 z.x, .slice z.A z.l z.c, .bool z.g] #[.int .i64 y.x, .slice y.A y.l y.c, .bool y.g] #[.int .i64 0, .slice none 0 0, .bool false])
  go_enter Try.func48, Try.ntmps48
  go_wp2_with fail
  go_quiet (fail)
  go_wp2_with fail
  refine (mul64_small u v hu64 hv64 hsm _).mono ?_
  rintro e w' ⟨p, rfl, rfl, hd, hp1, hp2, hp⟩
  have hO1 := Lib.hid (hO0.out.drewN nq)
  obtain ⟨hc0, hc1, hc2, hf0, hf1, hf2⟩ := blk3 hO1.out.b2
  go_wp2_with fail
  have h64 := In64_of p hp.out.2
  refine bodyPost_ret (v := .agg #[.int .i64 (-(p : Int)), .slice none 0 0, .bool false]) (by simp [results, Try.results48, go_sem, hc0, hc1, hc2, hf0, hf1, hf2]) rfl ⟨⟨(-(p : Int)), none, 0, 0, false⟩, rfl, ZR.small (by have h1 := hn.out; have h2 := hp.out.1; rw [h1, h2]) h64.2, hO1.out.set3 2 _ _ _ _ _ _⟩

set_option maxRecDepth 100000 in
set_option maxHeartbeats 8000000 in
theorem num_Mul3pn (z y : Zv) (n m : Int) (w : World) (hz : ZR w z n) (hy : ZR w y m) (hF : Fit n) (hG : Fit m) (h1 : z.A.isNone = true) (h2 : y.A.isNone = true) (u v : Nat) (hu64 : Hid (u < 18446744073709551616)) (hv64 : Hid (v < 18446744073709551616)) (hbig : Hid (9223372036854775808 ≤ u * v)) (hzn : decide (z.x < 0) = false) (hzw : IntKind.u64.wrap z.x = (u : Int)) (hyn : decide (y.x < 0) = true) (hyw : IntKind.u64.wrap (-IntKind.u64.wrap y.x) = (v : Int)) :
    Calls Try.prog 48 #[.agg #[.int .i64 z.x, .slice z.A z.l z.c, .bool z.g], .agg #[.int .i64 y.x, .slice y.A y.l y.c, .bool y.g]] w (PZ w (n * m)) := by
  have hu := Try.underlying45
  obtain ⟨i0, hi, hz0', hz1', hz2'⟩ := info_parts info32
  have hO0 := Lib.hid (Own.three w 45 45 45 #[.int .i64 z.x, .slice z.A z.l z.c, .bool z.g] #[.int .i64 y.x, .slice y.A y.l y.c, .bool y.g] #[.int .i64 0, .slice none 0 0, .bool false])
  go_enter Try.func48, Try.ntmps48
  go_upto_if 25 with (fail)
  go_cut [5] (fun v5 wc => Hid (Own w [(45, #[.int .i64 z.x, .slice z.A z.l z.c, .bool z.g]), (45, #[.int .i64 y.x, .slice y.A y.l y.c, .bool y.g]), (45, #[.int .i64 0, .slice none 0 0, .bool false])] wc))
  case first =>
    go_wp2_with fail
    go_quiet (fail)
    go_wp2_with fail
    refine (mul64_big u v hu64 hv64 hbig _).mono ?_
    rintro e w' ⟨hi', lo, rfl, rfl, hd⟩
    rcases hd.out with h0 | ⟨rfl, h0⟩
    · go_wp2_with fail
      go_meet
      exact Lib.hid (hO0.out.drewN _)
    · go_wp2_with fail
      go_meet
      exact Lib.hid (hO0.out.drewN _)
  case rest =>
    have hO := Lib.hid hcut.out
    clear hcut
    obtain ⟨hz0, hz1, hz2, -, -, -⟩ := blk3 hO.out.b0
    go_wp2_with fail
    refine (num_words z n _ (hO.out.zr hz)).mono ?_
    rintro e w1 ⟨A, l, c, xs, rfl, hU, hT, hv, hb1⟩
    have hlA := hF.len hU hT hv
    have hv1 := Lib.hid hv
    have hO1 := Lib.hid (hO.out.call hb1)
    obtain ⟨hy0, hy1, hy2, -, -, -⟩ := blk3 hO1.out.b1
    clear hv hb1 hz0 hz1 hz2
    go_wp2_with fail
    refine (num_words y m _ (hO1.out.zr hy)).mono ?_
    rintro e w2 ⟨B, k, d, ys, rfl, hV, hT2, hv, hb2⟩
    have hlB := hG.len hV hT2 hv
    have hv2 := Lib.hid hv
    have hO2 := Lib.hid (hO1.out.call hb2)
    have hU2 := hU.below hb2 (Nat.le_refl _)
    clear hv hb2 hU hy0 hy1 hy2
    go_wp2_with (at_make; refine wpList_make_full _ rfl _ _ 30 rfl w2.heap.size 85 i0 (.int .u32 0) 1 Try.underlying30 hi hz0' hz1' .i64 .i64 _ _ (l + k) rfl rfl ?c1 ?c1' ?c2 ?c3 ?c4 ?_; rotate_left 5; intro w3 hown hg1)
    case c1 => simp
    case c1' => simp
    case c2 => rw [hz2']; omega
    case c3 => simp [maxLen]; omega
    case c4 => exact Nat.le_refl _
    have hb0 : Below w2.heap.size w2 w3 := (Below.refl _ _).grown hg1 (Nat.le_refl _) (by intro k hk; cases hk)
    rw [made_zeros] at hown
    have hlx := hU2.1
    have hly := hV.1
    have hlx := Lib.hid hlx
    have hly := Lib.hid hly
    clear hg1
    go_loopw [86] (fun v86 wr => ∃ (i : Nat) (L : List Nat), i ≤ l ∧ v86 = .int .i64 i ∧ wr.ownsRow w2.heap.size 85 1 (.slice (some ⟨w2.heap.size, 0, none⟩) (l + k) (l + k)) (l + k) (vs L) ∧ Bd L ∧ MulOut L xs ys i ∧ Below w2.heap.size w2 wr) (fun i _ => l - (intOf i).toNat)
    case atStart => exact ⟨0, _, by omega, rfl, hown, Bd_zeros _, by have := MulOut.start xs ys; rwa [hlx.out, hly.out] at this, hb0⟩
    case round =>
      clear hown hb0
      obtain ⟨i, L, hil, rfl, hown, hbd, hM, hb⟩ := hrel
      obtain ⟨wo, rfl⟩ : ∃ wo : World, wo = wr := ⟨_, rfl⟩
      by_cases hlt : i < l
      · obtain ⟨gx, ox, x, rfl, hgx, hxk', hxl, hcx⟩ := (hU2.below hb (Nat.le_refl _)).cell hlt
        have hxk := Lib.hid hxk'
        clear hxk' hcx hgx
        go_wp2_with fail
        go_loopw [15, 91] (fun v15 v91 wq => ∃ (j cy : Nat) (M : List Nat), j ≤ k ∧ cy < 4294967296 ∧ v91 = .int .i64 j ∧ v15 = .int .u64 cy ∧ wq.ownsRow w2.heap.size 85 1 (.slice (some ⟨w2.heap.size, 0, none⟩) (l + k) (l + k)) (l + k) (vs M) ∧ Bd M ∧ MulIn L M i x ys j cy ∧ Below w2.heap.size w2 wq) (fun _ j _ => k - (intOf j).toNat)
        case atStart => exact ⟨0, 0, L, by omega, by omega, rfl, rfl, hown, hbd, MulIn.start _ _ _ _, hb⟩
        case round =>
          clear hown hbd hb
          obtain ⟨j, cy, M, hjk, hcy, rfl, rfl, hown, hbd, hI, hb⟩ := hrel
          by_cases hlj : j < k
          · obtain ⟨gx', ox', x', hA', hgx, hxk', hxl', hcx⟩ := (hU2.below hb (Nat.le_refl _)).cell hlt
            obtain ⟨rfl, rfl⟩ : gx = gx' ∧ ox = ox' := by simpa using hA'
            obtain rfl : x' = x := by have h1 := hxk.out; rw [hxk'] at h1; injection h1
            clear hxk' hA' hxl'
            obtain ⟨gy, oy, y', rfl, hgy, hyk', hyl, hcy'⟩ := (hV.below hb (Nat.le_refl _)).cell hlj
            have hyk := Lib.hid hyk'
            clear hyk'
            obtain ⟨o, ho', hco⟩ := row_cell hown (k := i + j) (by omega)
            have hol : o < 4294967296 := hbd _ (List.mem_of_getElem? ho')
            have ho := Lib.hid ho'
            clear ho'
            have hfr := hown.frozenAt (i + j)
            obtain ⟨q1, q2, q3⟩ := mul_wraps hol hxl hyl hcy
            have hcb := Lib.hid (carry_bd hol hxl hyl hcy)
            go_wp2_with fail
            go_quiet (fail)
            go_wp2_with fail
            go_roundw
            case rel => exact ⟨j + 1, (o + x' * y' + cy) / 4294967296, M.set (i + j) ((o + x' * y' + cy) % 4294967296), by omega, by have := hcb.out; omega, by go_num, mul_q o x' y' cy, row_set (row_drewN hown _) (i + j) _ (mul_r o x' y' cy), Bd_set hbd (by omega), hI.step ho.out hyk.out, (bdN hb _).setCell (Nat.le_refl _) _⟩
            case measure => simp [intOf]; omega
          · have : j = k := by omega
            subst this
            obtain ⟨o, ho', hco⟩ := row_cell hown (k := i + j) (by omega)
            have hfr := hown.frozenAt (i + j)
            clear ho'
            go_wp2_with fail
            go_roundw
            case rel => exact ⟨i + 1, M.set (i + j) cy, by omega, by go_num, row_set hown (i + j) cy rfl, Bd_set hbd hcy, by have h1 := hlx.out; have h2 := hly.out; have := MulOut.step (c := cy) (L := M) hM hxk.out (by rwa [h2]); rwa [h2] at this, hb.setCell (Nat.le_refl _) _⟩
            case measure => simp [intOf]; omega
      · have : i = l := by omega
        subst this
        have hO3 := Lib.hid (hO2.out.call hb)
        have hR := U32.own hown hbd
        have hvL := Lib.hid hM.1
        clear hown hM hb
        go_wp2_with fail
        refine (num_made _ (i + k) (i + k) _ L _ hR (by omega) (n * m) ?_).mono ?_
        · have h1 := hv1.out
          have h2 := hv2.out
          have h3 := hvL.out
          have h4 := hlx.out
          rw [List.take_of_length_le (by omega)] at h3
          exact mul_sign h1 h2 h3
        rintro e w6 ⟨z6, rfl, hz6, hb6⟩
        have hO4 := Lib.hid (hO3.out.call hb6)
        obtain ⟨hc0, hc1, hc2, hf0, hf1, hf2⟩ := blk3 hO4.out.b2
        clear hb6
        go_wp2_with fail
        refine bodyPost_ret (v := .agg #[.int .i64 z6.x, .slice z6.A z6.l z6.c, .bool z6.g]) (by simp [results, Try.results48, go_sem, hc0, hc1, hc2, hf0, hf1, hf2]) rfl ⟨z6, rfl, hz6.set (NoW.z (hO4.out).b2) (SetB.set3 _ _ _ _ _ _ _ _), (hO4.out).set3 2 _ _ _ _ _ _⟩

set_option maxRecDepth 100000 in
set_option maxHeartbeats 8000000 in
theorem num_MulFpn (z y : Zv) (n : Int) (w : World) (h1 : z.A.isNone = true) (h2 : y.A.isNone = true) (u v : Nat) (hu64 : Hid (u < 18446744073709551616)) (hv64 : Hid (v < 18446744073709551616)) (hsm : Hid (u * v < 9223372036854775808)) (hzn : decide (z.x < 0) = false) (hzw : IntKind.u64.wrap z.x = (u : Int)) (hyn : decide (y.x < 0) = true) (hyw : IntKind.u64.wrap (-IntKind.u64.wrap y.x) = (v : Int)) (hn : Hid (n = (-((u * v : Nat) : Int)))) :
    Calls Try.prog 48 #[.agg #[.int .i64 z.x, .slice z.A z.l z.c, .bool z.g], .agg #[.int .i64 y.x, .slice y.A y.l y.c, .bool y.g]] w (PZ w n) := by
  have hu := Try.underlying45
  have hO0 := Lib.hid (Own.three w 45 45 45 #[.int .i64 z.x, .slice z.A z.l z.c, .bool z.g] #[.int .i64 y.x, .slice y.A y.l y.c, .bool y.g] #[.int .i64 0, .slice none 0 0, .bool false])
  go_enter Try.func48, Try.ntmps48
  go_wp2_with fail
  go_quiet (fail)
  go_wp2_with fail
  refine (mul64_small u v hu64 hv64 hsm _).mono ?_
  rintro e w' ⟨p, rfl, rfl, hd, hp1, hp2, hp⟩
  have hO1 := Lib.hid (hO0.out.drewN nq)
  obtain ⟨hc0, hc1, hc2, hf0, hf1, hf2⟩ := blk3 hO1.out.b2
  go_wp2_with fail
  have h64 := In64_of p hp.out.2
  refine bodyPost_ret (v := .agg #[.int .i64 (-(p : Int)), .slice none 0 0, .bool false]) (by simp [results, Try.results48, go_sem, hc0, hc1, hc2, hf0, hf1, hf2]) rfl ⟨⟨(-(p : Int)), none, 0, 0, false⟩, rfl, ZR.small (by have h1 := hn.out; have h2 := hp.out.1; rw [h1, h2]) h64.2, hO1.out.set3 2 _ _ _ _ _ _⟩

set_option maxRecDepth 100000 in
set_option maxHeartbeats 8000000 in
theorem num_Mul3pp (z y : Zv) (n m : Int) (w : World) (hz : ZR w z n) (hy : ZR w y m) (hF : Fit n) (hG : Fit m) (h1 : z.A.isNone = true) (h2 : y.A.isNone = true) (u v : Nat) (hu64 : Hid (u < 18446744073709551616)) (hv64 : Hid (v < 18446744073709551616)) (hbig : Hid (9223372036854775808 ≤ u * v)) (hzn : decide (z.x < 0) = false) (hzw : IntKind.u64.wrap z.x = (u : Int)) (hyn : decide (y.x < 0) = false) (hyw : IntKind.u64.wrap y.x = (v : Int)) :
    Calls Try.prog 48 #[.agg #[.int .i64 z.x, .slice z.A z.l z.c, .bool z.g], .agg #[.int .i64 y.x, .slice y.A y.l y.c, .bool y.g]] w (PZ w (n * m)) := by
  have hu := Try.underlying45
  obtain ⟨i0, hi, hz0', hz1', hz2'⟩ := info_parts info32
  have hO0 := Lib.hid (Own.three w 45 45 45 #[.int .i64 z.x, .slice z.A z.l z.c, .bool z.g] #[.int .i64 y.x, .slice y.A y.l y.c, .bool y.g] #[.int .i64 0, .slice none 0 0, .bool false])
  go_enter Try.func48, Try.ntmps48
  go_upto_if 25 with (fail)
  go_cut [5] (fun v5 wc => Hid (Own w [(45, #[.int .i64 z.x, .slice z.A z.l z.c, .bool z.g]), (45, #[.int .i64 y.x, .slice y.A y.l y.c, .bool y.g]), (45, #[.int .i64 0, .slice none 0 0, .bool false])] wc))
  case first =>
    go_wp2_with fail
    go_quiet (fail)
    go_wp2_with fail
    refine (mul64_big u v hu64 hv64 hbig _).mono ?_
    rintro e w' ⟨hi', lo, rfl, rfl, hd⟩
    rcases hd.out with h0 | ⟨rfl, h0⟩
    · go_wp2_with fail
      go_meet
      exact Lib.hid (hO0.out.drewN _)
    · go_wp2_with fail
      go_meet
      exact Lib.hid (hO0.out.drewN _)
  case rest =>
    have hO := Lib.hid hcut.out
    clear hcut
    obtain ⟨hz0, hz1, hz2, -, -, -⟩ := blk3 hO.out.b0
    go_wp2_with fail
    refine (num_words z n _ (hO.out.zr hz)).mono ?_
    rintro e w1 ⟨A, l, c, xs, rfl, hU, hT, hv, hb1⟩
    have hlA := hF.len hU hT hv
    have hv1 := Lib.hid hv
    have hO1 := Lib.hid (hO.out.call hb1)
    obtain ⟨hy0, hy1, hy2, -, -, -⟩ := blk3 hO1.out.b1
    clear hv hb1 hz0 hz1 hz2
    go_wp2_with fail
    refine (num_words y m _ (hO1.out.zr hy)).mono ?_
    rintro e w2 ⟨B, k, d, ys, rfl, hV, hT2, hv, hb2⟩
    have hlB := hG.len hV hT2 hv
    have hv2 := Lib.hid hv
    have hO2 := Lib.hid (hO1.out.call hb2)
    have hU2 := hU.below hb2 (Nat.le_refl _)
    clear hv hb2 hU hy0 hy1 hy2
    go_wp2_with (at_make; refine wpList_make_full _ rfl _ _ 30 rfl w2.heap.size 85 i0 (.int .u32 0) 1 Try.underlying30 hi hz0' hz1' .i64 .i64 _ _ (l + k) rfl rfl ?c1 ?c1' ?c2 ?c3 ?c4 ?_; rotate_left 5; intro w3 hown hg1)
    case c1 => simp
    case c1' => simp
    case c2 => rw [hz2']; omega
    case c3 => simp [maxLen]; omega
    case c4 => exact Nat.le_refl _
    have hb0 : Below w2.heap.size w2 w3 := (Below.refl _ _).grown hg1 (Nat.le_refl _) (by intro k hk; cases hk)
    rw [made_zeros] at hown
    have hlx := hU2.1
    have hly := hV.1
    have hlx := Lib.hid hlx
    have hly := Lib.hid hly
    clear hg1
    go_loopw [86] (fun v86 wr => ∃ (i : Nat) (L : List Nat), i ≤ l ∧ v86 = .int .i64 i ∧ wr.ownsRow w2.heap.size 85 1 (.slice (some ⟨w2.heap.size, 0, none⟩) (l + k) (l + k)) (l + k) (vs L) ∧ Bd L ∧ MulOut L xs ys i ∧ Below w2.heap.size w2 wr) (fun i _ => l - (intOf i).toNat)
    case atStart => exact ⟨0, _, by omega, rfl, hown, Bd_zeros _, by have := MulOut.start xs ys; rwa [hlx.out, hly.out] at this, hb0⟩
    case round =>
      clear hown hb0
      obtain ⟨i, L, hil, rfl, hown, hbd, hM, hb⟩ := hrel
      obtain ⟨wo, rfl⟩ : ∃ wo : World, wo = wr := ⟨_, rfl⟩
      by_cases hlt : i < l
      · obtain ⟨gx, ox, x, rfl, hgx, hxk', hxl, hcx⟩ := (hU2.below hb (Nat.le_refl _)).cell hlt
        have hxk := Lib.hid hxk'
        clear hxk' hcx hgx
        go_wp2_with fail
        go_loopw [15, 91] (fun v15 v91 wq => ∃ (j cy : Nat) (M : List Nat), j ≤ k ∧ cy < 4294967296 ∧ v91 = .int .i64 j ∧ v15 = .int .u64 cy ∧ wq.ownsRow w2.heap.size 85 1 (.slice (some ⟨w2.heap.size, 0, none⟩) (l + k) (l + k)) (l + k) (vs M) ∧ Bd M ∧ MulIn L M i x ys j cy ∧ Below w2.heap.size w2 wq) (fun _ j _ => k - (intOf j).toNat)
        case atStart => exact ⟨0, 0, L, by omega, by omega, rfl, rfl, hown, hbd, MulIn.start _ _ _ _, hb⟩
        case round =>
          clear hown hbd hb
          obtain ⟨j, cy, M, hjk, hcy, rfl, rfl, hown, hbd, hI, hb⟩ := hrel
          by_cases hlj : j < k
          · obtain ⟨gx', ox', x', hA', hgx, hxk', hxl', hcx⟩ := (hU2.below hb (Nat.le_refl _)).cell hlt
            obtain ⟨rfl, rfl⟩ : gx = gx' ∧ ox = ox' := by simpa using hA'
            obtain rfl : x' = x := by have h1 := hxk.out; rw [hxk'] at h1; injection h1
            clear hxk' hA' hxl'
            obtain ⟨gy, oy, y', rfl, hgy, hyk', hyl, hcy'⟩ := (hV.below hb (Nat.le_refl _)).cell hlj
            have hyk := Lib.hid hyk'
            clear hyk'
            obtain ⟨o, ho', hco⟩ := row_cell hown (k := i + j) (by omega)
            have hol : o < 4294967296 := hbd _ (List.mem_of_getElem? ho')
            have ho := Lib.hid ho'
            clear ho'
            have hfr := hown.frozenAt (i + j)
            obtain ⟨q1, q2, q3⟩ := mul_wraps hol hxl hyl hcy
            have hcb := Lib.hid (carry_bd hol hxl hyl hcy)
            go_wp2_with fail
            go_quiet (fail)
            go_wp2_with fail
            go_roundw
            case rel => exact ⟨j + 1, (o + x' * y' + cy) / 4294967296, M.set (i + j) ((o + x' * y' + cy) % 4294967296), by omega, by have := hcb.out; omega, by go_num, mul_q o x' y' cy, row_set (row_drewN hown _) (i + j) _ (mul_r o x' y' cy), Bd_set hbd (by omega), hI.step ho.out hyk.out, (bdN hb _).setCell (Nat.le_refl _) _⟩
            case measure => simp [intOf]; omega
          · have : j = k := by omega
            subst this
            obtain ⟨o, ho', hco⟩ := row_cell hown (k := i + j) (by omega)
            have hfr := hown.frozenAt (i + j)
            clear ho'
            go_wp2_with fail
            go_roundw
            case rel => exact ⟨i + 1, M.set (i + j) cy, by omega, by go_num, row_set hown (i + j) cy rfl, Bd_set hbd hcy, by have h1 := hlx.out; have h2 := hly.out; have := MulOut.step (c := cy) (L := M) hM hxk.out (by rwa [h2]); rwa [h2] at this, hb.setCell (Nat.le_refl _) _⟩
            case measure => simp [intOf]; omega
      · have : i = l := by omega
        subst this
        have hO3 := Lib.hid (hO2.out.call hb)
        have hR := U32.own hown hbd
        have hvL := Lib.hid hM.1
        clear hown hM hb
        go_wp2_with fail
        refine (num_made _ (i + k) (i + k) _ L _ hR (by omega) (n * m) ?_).mono ?_
        · have h1 := hv1.out
          have h2 := hv2.out
          have h3 := hvL.out
          have h4 := hlx.out
          rw [List.take_of_length_le (by omega)] at h3
          exact mul_sign h1 h2 h3
        rintro e w6 ⟨z6, rfl, hz6, hb6⟩
        have hO4 := Lib.hid (hO3.out.call hb6)
        obtain ⟨hc0, hc1, hc2, hf0, hf1, hf2⟩ := blk3 hO4.out.b2
        clear hb6
        go_wp2_with fail
        refine bodyPost_ret (v := .agg #[.int .i64 z6.x, .slice z6.A z6.l z6.c, .bool z6.g]) (by simp [results, Try.results48, go_sem, hc0, hc1, hc2, hf0, hf1, hf2]) rfl ⟨z6, rfl, hz6.set (NoW.z (hO4.out).b2) (SetB.set3 _ _ _ _ _ _ _ _), (hO4.out).set3 2 _ _ _ _ _ _⟩

set_option maxRecDepth 100000 in
set_option maxHeartbeats 8000000 in
theorem num_MulFpp (z y : Zv) (n : Int) (w : World) (h1 : z.A.isNone = true) (h2 : y.A.isNone = true) (u v : Nat) (hu64 : Hid (u < 18446744073709551616)) (hv64 : Hid (v < 18446744073709551616)) (hsm : Hid (u * v < 9223372036854775808)) (hzn : decide (z.x < 0) = false) (hzw : IntKind.u64.wrap z.x = (u : Int)) (hyn : decide (y.x < 0) = false) (hyw : IntKind.u64.wrap y.x = (v : Int)) (hn : Hid (n = ((u * v : Nat) : Int))) :
    Calls Try.prog 48 #[.agg #[.int .i64 z.x, .slice z.A z.l z.c, .bool z.g], .agg #[.int .i64 y.x, .slice y.A y.l y.c, .bool y.g]] w (PZ w n) := by
  have hu := Try.underlying45
  have hO0 := Lib.hid (Own.three w 45 45 45 #[.int .i64 z.x, .slice z.A z.l z.c, .bool z.g] #[.int .i64 y.x, .slice y.A y.l y.c, .bool y.g] #[.int .i64 0, .slice none 0 0, .bool false])
  go_enter Try.func48, Try.ntmps48
  go_wp2_with fail
  go_quiet (fail)
  go_wp2_with fail
  refine (mul64_small u v hu64 hv64 hsm _).mono ?_
  rintro e w' ⟨p, rfl, rfl, hd, hp1, hp2, hp⟩
  have hO1 := Lib.hid (hO0.out.drewN nq)
  obtain ⟨hc0, hc1, hc2, hf0, hf1, hf2⟩ := blk3 hO1.out.b2
  go_wp2_with fail
  have h64 := In64_of p hp.out.2
  refine bodyPost_ret (v := .agg #[.int .i64 (p : Int), .slice none 0 0, .bool false]) (by simp [results, Try.results48, go_sem, hc0, hc1, hc2, hf0, hf1, hf2]) rfl ⟨⟨(p : Int), none, 0, 0, false⟩, rfl, ZR.small (by have h1 := hn.out; have h2 := hp.out.1; rw [h1, h2]) h64.1, hO1.out.set3 2 _ _ _ _ _ _⟩

set_option maxHeartbeats 1000000 in
theorem num_Mul (z y : Zv) (n m : Int) (w : World) (hz : ZR w z n) (hy : ZR w y m) (hF : Fit n) (hG : Fit m) :
    Calls Try.prog 48 #[.agg #[.int .i64 z.x, .slice z.A z.l z.c, .bool z.g], .agg #[.int .i64 y.x, .slice y.A y.l y.c, .bool y.g]] w (PZ w (n * m)) := by
  rcases hA : z.A.isNone with _ | _
  · exact num_Mul1 z y n m w hz hy hF hG hA
  · rcases hB : y.A.isNone with _ | _
    · exact num_Mul2 z y n m w hz hy hF hG hA hB
    · obtain ⟨e1, i1⟩ := isNone_small hz hA
      obtain ⟨e2, i2⟩ := isNone_small hy hB
      have x1 : z.x = n := by rw [e1]
      have x2 : y.x = m := by rw [e2]
      have u64 : n.natAbs < 18446744073709551616 := by unfold In64 at i1; omega
      have v64 : m.natAbs < 18446744073709551616 := by unfold In64 at i2; omega
      rcases Int.lt_or_le n 0 with hn | hn
      · have en : n = -(n.natAbs : Int) := by omega
        have wn : IntKind.u64.wrap (-IntKind.u64.wrap z.x) = (n.natAbs : Int) := by rw [x1]; exact unegI n hn i1
        have dn : decide (z.x < 0) = true := by rw [x1]; simpa using hn
        rcases Int.lt_or_le m 0 with hm | hm
        · have em : m = -(m.natAbs : Int) := by omega
          have wm : IntKind.u64.wrap (-IntKind.u64.wrap y.x) = (m.natAbs : Int) := by rw [x2]; exact unegI m hm i2
          have dm : decide (y.x < 0) = true := by rw [x2]; simpa using hm
          rcases Nat.lt_or_ge (n.natAbs * m.natAbs) 9223372036854775808 with hp | hp
          · exact num_MulFnn z y (n * m) w hA hB _ _ u64 v64 hp dn wn dm wm (am_nn hn hm)
          · exact num_Mul3nn z y n m w hz hy hF hG hA hB _ _ u64 v64 hp dn wn dm wm
        · have em : m = (m.natAbs : Int) := by omega
          have wm : IntKind.u64.wrap y.x = (m.natAbs : Int) := by rw [x2]; exact uposI m hm i2
          have dm : decide (y.x < 0) = false := by rw [x2]; simp; omega
          rcases Nat.lt_or_ge (n.natAbs * m.natAbs) 9223372036854775808 with hp | hp
          · exact num_MulFnp z y (n * m) w hA hB _ _ u64 v64 hp dn wn dm wm (am_np hn hm)
          · exact num_Mul3np z y n m w hz hy hF hG hA hB _ _ u64 v64 hp dn wn dm wm
      · have en : n = (n.natAbs : Int) := by omega
        have wn : IntKind.u64.wrap z.x = (n.natAbs : Int) := by rw [x1]; exact uposI n hn i1
        have dn : decide (z.x < 0) = false := by rw [x1]; simp; omega
        rcases Int.lt_or_le m 0 with hm | hm
        · have em : m = -(m.natAbs : Int) := by omega
          have wm : IntKind.u64.wrap (-IntKind.u64.wrap y.x) = (m.natAbs : Int) := by rw [x2]; exact unegI m hm i2
          have dm : decide (y.x < 0) = true := by rw [x2]; simpa using hm
          rcases Nat.lt_or_ge (n.natAbs * m.natAbs) 9223372036854775808 with hp | hp
          · exact num_MulFpn z y (n * m) w hA hB _ _ u64 v64 hp dn wn dm wm (am_pn hn hm)
          · exact num_Mul3pn z y n m w hz hy hF hG hA hB _ _ u64 v64 hp dn wn dm wm
        · have em : m = (m.natAbs : Int) := by omega
          have wm : IntKind.u64.wrap y.x = (m.natAbs : Int) := by rw [x2]; exact uposI m hm i2
          have dm : decide (y.x < 0) = false := by rw [x2]; simp; omega
          rcases Nat.lt_or_ge (n.natAbs * m.natAbs) 9223372036854775808 with hp | hp
          · exact num_MulFpp z y (n * m) w hA hB _ _ u64 v64 hp dn wn dm wm (am_pp hn hm)
          · exact num_Mul3pp z y n m w hz hy hF hG hA hB _ _ u64 v64 hp dn wn dm wm

end Go.Proofs.Ytgoojlnfobjplaa
