import Derived.Test.YtgoojlnfobjplaaZf
import Derived.Test.YtgoojlnfobjplaaZe
namespace Go.Proofs.Ytgoojlnfobjplaa
open Go.RowKit
set_option linter.unusedSimpArgs false
set_option linter.unusedVariables false
attribute [local go_sem] qn30 qe30

theorem mul_wraps {o x y c : Nat} (ho : o < 4294967296) (hx : x < 4294967296) (hy : y < 4294967296) (hc : c < 4294967296) :
    IntKind.u64.wrap ((x : Int) * y) = (x : Int) * y ∧ IntKind.u64.wrap ((o : Int) + (x : Int) * y) = (o : Int) + (x : Int) * y ∧ IntKind.u64.wrap ((o : Int) + (x : Int) * y + c) = (o : Int) + (x : Int) * y + c := by
  have h := carry_bd ho hx hy hc
  have e : ((x * y : Nat) : Int) = (x : Int) * y := Int.natCast_mul _ _
  rw [← e]
  generalize x * y = p at *
  rw [IntKind.wrap_u64, IntKind.wrap_u64, IntKind.wrap_u64]
  omega

theorem mul_q (o x y c : Nat) : Value.int .u64 (((o : Int) + (x : Int) * y + c) / 4294967296) = Value.int .u64 (((o + x * y + c) / 4294967296 : Nat) : Int) := by
  have e : ((x * y : Nat) : Int) = (x : Int) * y := Int.natCast_mul _ _
  rw [← e]
  generalize x * y = p at *
  exact congrArg _ (by omega)
theorem mul_r (o x y c : Nat) : (((o + x * y + c) % 4294967296 : Nat) : Int) = ((o : Int) + (x : Int) * y + c) % 4294967296 := by
  have e : ((x * y : Nat) : Int) = (x : Int) * y := Int.natCast_mul _ _
  rw [← e]
  generalize x * y = p at *
  omega

theorem mul_sign {n m : Int} {v a b : Nat} (h1 : a = n.natAbs) (h2 : b = m.natAbs) (h3 : v = a * b) : Hid (n * m = (if (!(decide (n < 0) == decide (m < 0))) = true then -(v : Int) else (v : Int))) := by
  subst h1 h2 h3
  show _ = _
  have key : ((n.natAbs * m.natAbs : Nat) : Int) = (n.natAbs : Int) * (m.natAbs : Int) := Int.natCast_mul _ _
  rw [key]
  rcases Int.lt_or_le n 0 with hn | hn <;> rcases Int.lt_or_le m 0 with hm | hm
  · rw [decide_eq_true hn, decide_eq_true hm]
    have e1 : (n.natAbs : Int) = -n := by omega
    have e2 : (m.natAbs : Int) = -m := by omega
    rw [e1, e2]
    simp [Int.neg_mul_neg]
  · rw [decide_eq_true hn, decide_eq_false (show ¬ m < 0 by omega)]
    have e1 : (n.natAbs : Int) = -n := by omega
    have e2 : (m.natAbs : Int) = m := by omega
    rw [e1, e2]
    simp [Int.neg_mul]
  · rw [decide_eq_false (show ¬ n < 0 by omega), decide_eq_true hm]
    have e1 : (n.natAbs : Int) = n := by omega
    have e2 : (m.natAbs : Int) = -m := by omega
    rw [e1, e2]
    simp [Int.mul_neg]
  · rw [decide_eq_false (show ¬ n < 0 by omega), decide_eq_false (show ¬ m < 0 by omega)]
    have e1 : (n.natAbs : Int) = n := by omega
    have e2 : (m.natAbs : Int) = m := by omega
    rw [e1, e2]
    simp

set_option maxRecDepth 100000 in
set_option maxHeartbeats 8000000 in
theorem num_Mul1 (z y : Zv) (n m : Int) (w : World) (hz : ZR w z n) (hy : ZR w y m) (hF : Fit n) (hG : Fit m) (h1 : z.A.isNone = false) :
    Calls Try.prog 48 #[.agg #[.int .i64 z.x, .slice z.A z.l z.c, .bool z.g], .agg #[.int .i64 y.x, .slice y.A y.l y.c, .bool y.g]] w (PZ w (n * m)) := by
  have hu := Try.underlying45
  obtain ⟨i0, hi, hz0', hz1', hz2'⟩ := info_parts info32
  have hO0 := Lib.hid (Own.three w 45 45 45 #[.int .i64 z.x, .slice z.A z.l z.c, .bool z.g] #[.int .i64 y.x, .slice y.A y.l y.c, .bool y.g] #[.int .i64 0, .slice none 0 0, .bool false])
  go_enter Try.func48, Try.ntmps48
  go_upto_if 25 with (fail)
  go_cut [5] (fun v5 wc => Hid (Own w [(45, #[.int .i64 z.x, .slice z.A z.l z.c, .bool z.g]), (45, #[.int .i64 y.x, .slice y.A y.l y.c, .bool y.g]), (45, #[.int .i64 0, .slice none 0 0, .bool false])] wc))
  case first =>
    go_wp2_with fail
    go_meet
    exact hO0
  case rest =>
    have hO := Lib.hid hcut.out
    clear hcut
    obtain ⟨hz0, hz1, hz2, -, -, -⟩ := blk3 hO.out.b0
    go_wp2_with fail
    refine (num_words z n _ (hO.out.zr hz)).mono ?_
    rintro e w1 ⟨A, l, c, xs, rfl, hU, hT, hv, hb1⟩
    have hlA := hF.len hU hT hv
    have hv1 := Lib.hid hv
    have hO1 := Lib.hid (hO.out.call hb1)
    obtain ⟨hy0, hy1, hy2, -, -, -⟩ := blk3 hO1.out.b1
    clear hv hb1 hz0 hz1 hz2
    go_wp2_with fail
    refine (num_words y m _ (hO1.out.zr hy)).mono ?_
    rintro e w2 ⟨B, k, d, ys, rfl, hV, hT2, hv, hb2⟩
    have hlB := hG.len hV hT2 hv
    have hv2 := Lib.hid hv
    have hO2 := Lib.hid (hO1.out.call hb2)
    have hU2 := hU.below hb2 (Nat.le_refl _)
    clear hv hb2 hU hy0 hy1 hy2
    go_wp2_with (at_make; refine wpList_make_full _ rfl _ _ 30 rfl w2.heap.size 85 i0 (.int .u32 0) 1 Try.underlying30 hi hz0' hz1' .i64 .i64 _ _ (l + k) rfl rfl ?c1 ?c1' ?c2 ?c3 ?c4 ?_; rotate_left 5; intro w3 hown hg1)
    case c1 => simp
    case c1' => simp
    case c2 => rw [hz2']; omega
    case c3 => simp [maxLen]; omega
    case c4 => exact Nat.le_refl _
    have hb0 : Below w2.heap.size w2 w3 := (Below.refl _ _).grown hg1 (Nat.le_refl _) (by intro k hk; cases hk)
    rw [made_zeros] at hown
    have hlx := hU2.1
    have hly := hV.1
    have hlx := Lib.hid hlx
    have hly := Lib.hid hly
    clear hg1
    go_loopw [86] (fun v86 wr => ∃ (i : Nat) (L : List Nat), i ≤ l ∧ v86 = .int .i64 i ∧ wr.ownsRow w2.heap.size 85 1 (.slice (some ⟨w2.heap.size, 0, none⟩) (l + k) (l + k)) (l + k) (vs L) ∧ Bd L ∧ MulOut L xs ys i ∧ Below w2.heap.size w2 wr) (fun i _ => l - (intOf i).toNat)
    case atStart => exact ⟨0, _, by omega, rfl, hown, Bd_zeros _, by have := MulOut.start xs ys; rwa [hlx.out, hly.out] at this, hb0⟩
    case round =>
      clear hown hb0
      obtain ⟨i, L, hil, rfl, hown, hbd, hM, hb⟩ := hrel
      obtain ⟨wo, rfl⟩ : ∃ wo : World, wo = wr := ⟨_, rfl⟩
      by_cases hlt : i < l
      · obtain ⟨gx, ox, x, rfl, hgx, hxk', hxl, hcx⟩ := (hU2.below hb (Nat.le_refl _)).cell hlt
        have hxk := Lib.hid hxk'
        clear hxk' hcx hgx
        go_wp2_with fail
        go_loopw [15, 91] (fun v15 v91 wq => ∃ (j cy : Nat) (M : List Nat), j ≤ k ∧ cy < 4294967296 ∧ v91 = .int .i64 j ∧ v15 = .int .u64 cy ∧ wq.ownsRow w2.heap.size 85 1 (.slice (some ⟨w2.heap.size, 0, none⟩) (l + k) (l + k)) (l + k) (vs M) ∧ Bd M ∧ MulIn L M i x ys j cy ∧ Below w2.heap.size w2 wq) (fun _ j _ => k - (intOf j).toNat)
        case atStart => exact ⟨0, 0, L, by omega, by omega, rfl, rfl, hown, hbd, MulIn.start _ _ _ _, hb⟩
        case round =>
          clear hown hbd hb
          obtain ⟨j, cy, M, hjk, hcy, rfl, rfl, hown, hbd, hI, hb⟩ := hrel
          by_cases hlj : j < k
          · obtain ⟨gx', ox', x', hA', hgx, hxk', hxl', hcx⟩ := (hU2.below hb (Nat.le_refl _)).cell hlt
            obtain ⟨rfl, rfl⟩ : gx = gx' ∧ ox = ox' := by simpa using hA'
            obtain rfl : x' = x := by have h1 := hxk.out; rw [hxk'] at h1; injection h1
            clear hxk' hA' hxl'
            obtain ⟨gy, oy, y', rfl, hgy, hyk', hyl, hcy'⟩ := (hV.below hb (Nat.le_refl _)).cell hlj
            have hyk := Lib.hid hyk'
            clear hyk'
            obtain ⟨o, ho', hco⟩ := row_cell hown (k := i + j) (by omega)
            have hol : o < 4294967296 := hbd _ (List.mem_of_getElem? ho')
            have ho := Lib.hid ho'
            clear ho'
            have hfr := hown.frozenAt (i + j)
            obtain ⟨q1, q2, q3⟩ := mul_wraps hol hxl hyl hcy
            have hcb := Lib.hid (carry_bd hol hxl hyl hcy)
            go_wp2_with fail
            go_quiet (fail)
            go_wp2_with fail
            go_roundw
            case rel => exact ⟨j + 1, (o + x' * y' + cy) / 4294967296, M.set (i + j) ((o + x' * y' + cy) % 4294967296), by omega, by have := hcb.out; omega, by go_num, mul_q o x' y' cy, row_set (row_drewN hown _) (i + j) _ (mul_r o x' y' cy), Bd_set hbd (by omega), hI.step ho.out hyk.out, (bdN hb _).setCell (Nat.le_refl _) _⟩
            case measure => simp [intOf]; omega
          · have : j = k := by omega
            subst this
            obtain ⟨o, ho', hco⟩ := row_cell hown (k := i + j) (by omega)
            have hfr := hown.frozenAt (i + j)
            clear ho'
            go_wp2_with fail
            go_roundw
            case rel => exact ⟨i + 1, M.set (i + j) cy, by omega, by go_num, row_set hown (i + j) cy rfl, Bd_set hbd hcy, by have h1 := hlx.out; have h2 := hly.out; have := MulOut.step (c := cy) (L := M) hM hxk.out (by rwa [h2]); rwa [h2] at this, hb.setCell (Nat.le_refl _) _⟩
            case measure => simp [intOf]; omega
      · have : i = l := by omega
        subst this
        have hO3 := Lib.hid (hO2.out.call hb)
        have hR := U32.own hown hbd
        have hvL := Lib.hid hM.1
        clear hown hM hb
        go_wp2_with fail
        refine (num_made _ (i + k) (i + k) _ L _ hR (by omega) (n * m) ?_).mono ?_
        · have h1 := hv1.out
          have h2 := hv2.out
          have h3 := hvL.out
          have h4 := hlx.out
          rw [List.take_of_length_le (by omega)] at h3
          exact mul_sign h1 h2 h3
        rintro e w6 ⟨z6, rfl, hz6, hb6⟩
        have hO4 := Lib.hid (hO3.out.call hb6)
        obtain ⟨hc0, hc1, hc2, hf0, hf1, hf2⟩ := blk3 hO4.out.b2
        clear hb6
        go_wp2_with fail
        refine bodyPost_ret (v := .agg #[.int .i64 z6.x, .slice z6.A z6.l z6.c, .bool z6.g]) (by simp [results, Try.results48, go_sem, hc0, hc1, hc2, hf0, hf1, hf2]) rfl ⟨z6, rfl, hz6.set (NoW.z (hO4.out).b2) (SetB.set3 _ _ _ _ _ _ _ _), (hO4.out).set3 2 _ _ _ _ _ _⟩

set_option maxRecDepth 100000 in
set_option maxHeartbeats 8000000 in
theorem num_Mul2 (z y : Zv) (n m : Int) (w : World) (hz : ZR w z n) (hy : ZR w y m) (hF : Fit n) (hG : Fit m) (h1 : z.A.isNone = true) (h2 : y.A.isNone = false) :
    Calls Try.prog 48 #[.agg #[.int .i64 z.x, .slice z.A z.l z.c, .bool z.g], .agg #[.int .i64 y.x, .slice y.A y.l y.c, .bool y.g]] w (PZ w (n * m)) := by
  have hu := Try.underlying45
  obtain ⟨i0, hi, hz0', hz1', hz2'⟩ := info_parts info32
  have hO0 := Lib.hid (Own.three w 45 45 45 #[.int .i64 z.x, .slice z.A z.l z.c, .bool z.g] #[.int .i64 y.x, .slice y.A y.l y.c, .bool y.g] #[.int .i64 0, .slice none 0 0, .bool false])
  go_enter Try.func48, Try.ntmps48
  go_upto_if 25 with (fail)
  go_cut [5] (fun v5 wc => Hid (Own w [(45, #[.int .i64 z.x, .slice z.A z.l z.c, .bool z.g]), (45, #[.int .i64 y.x, .slice y.A y.l y.c, .bool y.g]), (45, #[.int .i64 0, .slice none 0 0, .bool false])] wc))
  case first =>
    go_wp2_with fail
    go_meet
    exact hO0
  case rest =>
    have hO := Lib.hid hcut.out
    clear hcut
    obtain ⟨hz0, hz1, hz2, -, -, -⟩ := blk3 hO.out.b0
    go_wp2_with fail
    refine (num_words z n _ (hO.out.zr hz)).mono ?_
    rintro e w1 ⟨A, l, c, xs, rfl, hU, hT, hv, hb1⟩
    have hlA := hF.len hU hT hv
    have hv1 := Lib.hid hv
    have hO1 := Lib.hid (hO.out.call hb1)
    obtain ⟨hy0, hy1, hy2, -, -, -⟩ := blk3 hO1.out.b1
    clear hv hb1 hz0 hz1 hz2
    go_wp2_with fail
    refine (num_words y m _ (hO1.out.zr hy)).mono ?_
    rintro e w2 ⟨B, k, d, ys, rfl, hV, hT2, hv, hb2⟩
    have hlB := hG.len hV hT2 hv
    have hv2 := Lib.hid hv
    have hO2 := Lib.hid (hO1.out.call hb2)
    have hU2 := hU.below hb2 (Nat.le_refl _)
    clear hv hb2 hU hy0 hy1 hy2
    go_wp2_with (at_make; refine wpList_make_full _ rfl _ _ 30 rfl w2.heap.size 85 i0 (.int .u32 0) 1 Try.underlying30 hi hz0' hz1' .i64 .i64 _ _ (l + k) rfl rfl ?c1 ?c1' ?c2 ?c3 ?c4 ?_; rotate_left 5; intro w3 hown hg1)
    case c1 => simp
    case c1' => simp
    case c2 => rw [hz2']; omega
    case c3 => simp [maxLen]; omega
    case c4 => exact Nat.le_refl _
    have hb0 : Below w2.heap.size w2 w3 := (Below.refl _ _).grown hg1 (Nat.le_refl _) (by intro k hk; cases hk)
    rw [made_zeros] at hown
    have hlx := hU2.1
    have hly := hV.1
    have hlx := Lib.hid hlx
    have hly := Lib.hid hly
    clear hg1
    go_loopw [86] (fun v86 wr => ∃ (i : Nat) (L : List Nat), i ≤ l ∧ v86 = .int .i64 i ∧ wr.ownsRow w2.heap.size 85 1 (.slice (some ⟨w2.heap.size, 0, none⟩) (l + k) (l + k)) (l + k) (vs L) ∧ Bd L ∧ MulOut L xs ys i ∧ Below w2.heap.size w2 wr) (fun i _ => l - (intOf i).toNat)
    case atStart => exact ⟨0, _, by omega, rfl, hown, Bd_zeros _, by have := MulOut.start xs ys; rwa [hlx.out, hly.out] at this, hb0⟩
    case round =>
      clear hown hb0
      obtain ⟨i, L, hil, rfl, hown, hbd, hM, hb⟩ := hrel
      obtain ⟨wo, rfl⟩ : ∃ wo : World, wo = wr := ⟨_, rfl⟩
      by_cases hlt : i < l
      · obtain ⟨gx, ox, x, rfl, hgx, hxk', hxl, hcx⟩ := (hU2.below hb (Nat.le_refl _)).cell hlt
        have hxk := Lib.hid hxk'
        clear hxk' hcx hgx
        go_wp2_with fail
        go_loopw [15, 91] (fun v15 v91 wq => ∃ (j cy : Nat) (M : List Nat), j ≤ k ∧ cy < 4294967296 ∧ v91 = .int .i64 j ∧ v15 = .int .u64 cy ∧ wq.ownsRow w2.heap.size 85 1 (.slice (some ⟨w2.heap.size, 0, none⟩) (l + k) (l + k)) (l + k) (vs M) ∧ Bd M ∧ MulIn L M i x ys j cy ∧ Below w2.heap.size w2 wq) (fun _ j _ => k - (intOf j).toNat)
        case atStart => exact ⟨0, 0, L, by omega, by omega, rfl, rfl, hown, hbd, MulIn.start _ _ _ _, hb⟩
        case round =>
          clear hown hbd hb
          obtain ⟨j, cy, M, hjk, hcy, rfl, rfl, hown, hbd, hI, hb⟩ := hrel
          by_cases hlj : j < k
          · obtain ⟨gx', ox', x', hA', hgx, hxk', hxl', hcx⟩ := (hU2.below hb (Nat.le_refl _)).cell hlt
            obtain ⟨rfl, rfl⟩ : gx = gx' ∧ ox = ox' := by simpa using hA'
            obtain rfl : x' = x := by have h1 := hxk.out; rw [hxk'] at h1; injection h1
            clear hxk' hA' hxl'
            obtain ⟨gy, oy, y', rfl, hgy, hyk', hyl, hcy'⟩ := (hV.below hb (Nat.le_refl _)).cell hlj
            have hyk := Lib.hid hyk'
            clear hyk'
            obtain ⟨o, ho', hco⟩ := row_cell hown (k := i + j) (by omega)
            have hol : o < 4294967296 := hbd _ (List.mem_of_getElem? ho')
            have ho := Lib.hid ho'
            clear ho'
            have hfr := hown.frozenAt (i + j)
            obtain ⟨q1, q2, q3⟩ := mul_wraps hol hxl hyl hcy
            have hcb := Lib.hid (carry_bd hol hxl hyl hcy)
            go_wp2_with fail
            go_quiet (fail)
            go_wp2_with fail
            go_roundw
            case rel => exact ⟨j + 1, (o + x' * y' + cy) / 4294967296, M.set (i + j) ((o + x' * y' + cy) % 4294967296), by omega, by have := hcb.out; omega, by go_num, mul_q o x' y' cy, row_set (row_drewN hown _) (i + j) _ (mul_r o x' y' cy), Bd_set hbd (by omega), hI.step ho.out hyk.out, (bdN hb _).setCell (Nat.le_refl _) _⟩
            case measure => simp [intOf]; omega
          · have : j = k := by omega
            subst this
            obtain ⟨o, ho', hco⟩ := row_cell hown (k := i + j) (by omega)
            have hfr := hown.frozenAt (i + j)
            clear ho'
            go_wp2_with fail
            go_roundw
            case rel => exact ⟨i + 1, M.set (i + j) cy, by omega, by go_num, row_set hown (i + j) cy rfl, Bd_set hbd hcy, by have h1 := hlx.out; have h2 := hly.out; have := MulOut.step (c := cy) (L := M) hM hxk.out (by rwa [h2]); rwa [h2] at this, hb.setCell (Nat.le_refl _) _⟩
            case measure => simp [intOf]; omega
      · have : i = l := by omega
        subst this
        have hO3 := Lib.hid (hO2.out.call hb)
        have hR := U32.own hown hbd
        have hvL := Lib.hid hM.1
        clear hown hM hb
        go_wp2_with fail
        refine (num_made _ (i + k) (i + k) _ L _ hR (by omega) (n * m) ?_).mono ?_
        · have h1 := hv1.out
          have h2 := hv2.out
          have h3 := hvL.out
          have h4 := hlx.out
          rw [List.take_of_length_le (by omega)] at h3
          exact mul_sign h1 h2 h3
        rintro e w6 ⟨z6, rfl, hz6, hb6⟩
        have hO4 := Lib.hid (hO3.out.call hb6)
        obtain ⟨hc0, hc1, hc2, hf0, hf1, hf2⟩ := blk3 hO4.out.b2
        clear hb6
        go_wp2_with fail
        refine bodyPost_ret (v := .agg #[.int .i64 z6.x, .slice z6.A z6.l z6.c, .bool z6.g]) (by simp [results, Try.results48, go_sem, hc0, hc1, hc2, hf0, hf1, hf2]) rfl ⟨z6, rfl, hz6.set (NoW.z (hO4.out).b2) (SetB.set3 _ _ _ _ _ _ _ _), (hO4.out).set3 2 _ _ _ _ _ _⟩

end Go.Proofs.Ytgoojlnfobjplaa
