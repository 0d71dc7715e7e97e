/- What the package num does with integers: quotient and remainder. -/
import Derived.Test.YtgoojlnfobjplaaZq
namespace Go.Proofs.Ytgoojlnfobjplaa
open Go.RowKit
set_option linter.unusedSimpArgs false
set_option linter.unusedVariables false
attribute [local go_sem] qn30 qe30

/-- two integers are returned -/
def PZZ (w : World) (n m : Int) (e : Ending) (w' : World) : Prop :=
  ∃ z y : Zv, e = .returned (.tuple #[.agg #[.int .i64 z.x, .slice z.A z.l z.c, .bool z.g], .agg #[.int .i64 y.x, .slice y.A y.l y.c, .bool y.g]]) ∧ ZR w' z n ∧ ZR w' y m ∧ Below w.heap.size w w'

theorem Own.four (w : World) (t t' t'' t3 : TypeId) (cs cs' cs'' cs3 : Array Value) : Own w [(t, cs), (t', cs'), (t'', cs''), (t3, cs3)] ((((w.alloc (.cells cs t)).alloc (.cells cs' t')).alloc (.cells cs'' t'')).alloc (.cells cs3 t3)) := (Own.three w t t' t'' cs cs' cs'').alloc (by simp) t3 cs3
theorem Own.b3 {w w1 : World} {x y z : TypeId × Array Value} {t : TypeId} {cs : Array Value} {r : List (TypeId × Array Value)} (h : Own w (x :: y :: z :: (t, cs) :: r) w1) : Blk w1 (w.heap.size + 3) t cs := h.2.2 3 t cs rfl

theorem natq {n m : Int} : (n.tdiv m).natAbs = n.natAbs / m.natAbs := Int.natAbs_tdiv n m
theorem natr {n m : Int} : (n.tmod m).natAbs = n.natAbs % m.natAbs := Int.natAbs_tmod n m

theorem quo_sign {n m : Int} {a b q : Nat} (h1 : a = n.natAbs) (h2 : b = m.natAbs) (h3 : q = a / b) : Hid (n.tdiv m = (if (!(decide (n < 0) == decide (m < 0))) = true then -(q : Int) else (q : Int))) := by
  subst h1 h2 h3
  show _ = _
  rcases Int.lt_or_le n 0 with hn | hn <;> rcases Int.lt_or_le m 0 with hm | hm
  · rw [decide_eq_true hn, decide_eq_true hm]
    obtain ⟨a, rfl⟩ : ∃ a : Nat, n = -(a : Int) := ⟨n.natAbs, by omega⟩
    obtain ⟨b, rfl⟩ : ∃ b : Nat, m = -(b : Int) := ⟨m.natAbs, by omega⟩
    simp
  · rw [decide_eq_true hn, decide_eq_false (show ¬ m < 0 by omega)]
    obtain ⟨a, rfl⟩ : ∃ a : Nat, n = -(a : Int) := ⟨n.natAbs, by omega⟩
    obtain ⟨b, rfl⟩ := Int.eq_ofNat_of_zero_le hm
    simp [Int.neg_tdiv]
  · rw [decide_eq_false (show ¬ n < 0 by omega), decide_eq_true hm]
    obtain ⟨a, rfl⟩ := Int.eq_ofNat_of_zero_le hn
    obtain ⟨b, rfl⟩ : ∃ b : Nat, m = -(b : Int) := ⟨m.natAbs, by omega⟩
    simp [Int.tdiv_neg]
  · rw [decide_eq_false (show ¬ n < 0 by omega), decide_eq_false (show ¬ m < 0 by omega)]
    obtain ⟨a, rfl⟩ := Int.eq_ofNat_of_zero_le hn
    obtain ⟨b, rfl⟩ := Int.eq_ofNat_of_zero_le hm
    simp
theorem rem_sign {n m : Int} {a b q : Nat} (h1 : a = n.natAbs) (h2 : b = m.natAbs) (h3 : q = a % b) : Hid (n.tmod m = (if (decide (n < 0)) = true then -(q : Int) else (q : Int))) := by
  subst h1 h2 h3
  show _ = _
  have e : n.tmod m = n.tmod (m.natAbs : Int) := by
    rcases Int.lt_or_le m 0 with hm | hm
    · have : m = -(m.natAbs : Int) := by omega
      rw [this, Int.tmod_neg]
      simp
    · have : m = (m.natAbs : Int) := by omega
      rw [← this]
  rw [e]
  rcases Int.lt_or_le n 0 with hn | hn
  · rw [decide_eq_true hn]
    obtain ⟨a, rfl⟩ : ∃ a : Nat, n = -(a : Int) := ⟨n.natAbs, by omega⟩
    simp only [Int.neg_tmod, Int.natAbs_neg, Int.natAbs_natCast, if_true]
    rfl
  · rw [decide_eq_false (show ¬ n < 0 by omega)]
    obtain ⟨a, rfl⟩ := Int.eq_ofNat_of_zero_le hn
    simp
    rfl

theorem quo_end {w w5 : World} {z4 z5 : Zv} {n m : Int} {x y : TypeId × Array Value} {t : TypeId} (h : Own w [x, y, (t, #[.int .i64 0, .slice none 0 0, .bool false]), (t, #[.int .i64 0, .slice none 0 0, .bool false])] w5) (h4 : ZR w5 z4 n) (h5 : ZR w5 z5 m) :
    PZZ w n m (.returned (.tuple #[.agg #[.int .i64 z4.x, .slice z4.A z4.l z4.c, .bool z4.g], .agg #[.int .i64 z5.x, .slice z5.A z5.l z5.c, .bool z5.g]])) ((((((w5.setCell ⟨w.heap.size + 2, 0, none⟩ (.int .i64 z4.x)).setCell ⟨w.heap.size + 2, 1, none⟩ (.slice z4.A z4.l z4.c)).setCell ⟨w.heap.size + 2, 2, none⟩ (.bool z4.g)).setCell ⟨w.heap.size + 3, 0, none⟩ (.int .i64 z5.x)).setCell ⟨w.heap.size + 3, 1, none⟩ (.slice z5.A z5.l z5.c)).setCell ⟨w.heap.size + 3, 2, none⟩ (.bool z5.g)) := by
  have s1 := SetB.set3 w5 (w.heap.size + 2) 0 1 2 (.int .i64 z4.x) (.slice z4.A z4.l z4.c) (.bool z4.g)
  have n1 : NoW w5 (w.heap.size + 2) := NoW.z h.b2
  have b1 := h.set3 2 0 1 2 (.int .i64 z4.x) (.slice z4.A z4.l z4.c) (.bool z4.g)
  have h4' := h4.set n1 s1
  have h5' := h5.set n1 s1
  have n2 : NoW (((w5.setCell ⟨w.heap.size + 2, 0, none⟩ (.int .i64 z4.x)).setCell ⟨w.heap.size + 2, 1, none⟩ (.slice z4.A z4.l z4.c)).setCell ⟨w.heap.size + 2, 2, none⟩ (.bool z4.g)) (w.heap.size + 3) := by
    intro i u
    rw [s1.2 ⟨w.heap.size + 3, i, none⟩ (by simp)]
    exact NoW.z h.b3 i u
  generalize (((w5.setCell ⟨w.heap.size + 2, 0, none⟩ (.int .i64 z4.x)).setCell ⟨w.heap.size + 2, 1, none⟩ (.slice z4.A z4.l z4.c)).setCell ⟨w.heap.size + 2, 2, none⟩ (.bool z4.g)) = w6 at *
  have s2 := SetB.set3 w6 (w.heap.size + 3) 0 1 2 (.int .i64 z5.x) (.slice z5.A z5.l z5.c) (.bool z5.g)
  refine ⟨z4, z5, rfl, h4'.set n2 s2, h5'.set n2 s2, ((b1.setCell (p := ⟨w.heap.size + 3, 0, none⟩) (Nat.le_add_right _ _) _).setCell (p := ⟨w.heap.size + 3, 1, none⟩) (Nat.le_add_right _ _) _).setCell (p := ⟨w.heap.size + 3, 2, none⟩) (Nat.le_add_right _ _) _⟩

theorem tdiv_in {n m : Int} (h : In64 n) (h2 : n ≠ -9223372036854775808) : In64 (n.tdiv m) ∧ In64 (n.tmod m) := by
  have h3 : (n.tdiv m).natAbs ≤ n.natAbs := by rw [Int.natAbs_tdiv]; exact Nat.div_le_self _ _
  have h5 : (n.tmod m).natAbs ≤ n.natAbs := by rw [Int.natAbs_tmod]; exact Nat.mod_le _ _
  generalize n.tdiv m = a at *
  generalize n.tmod m = b at *
  unfold In64 at *
  omega

set_option maxRecDepth 100000 in
set_option maxHeartbeats 8000000 in
theorem num_QuoF (n m : Int) (w : World) (hn : In64 n) (hne : n ≠ -9223372036854775808) (hm0 : Hid (m ≠ 0)) :
    Calls Try.prog 73 #[.agg #[.int .i64 n, .slice none 0 0, .bool false], .agg #[.int .i64 m, .slice none 0 0, .bool false]] w (PZZ w (n.tdiv m) (n.tmod m)) := by
  have hu := Try.underlying45
  obtain ⟨i1, i2⟩ := tdiv_in (m := m) hn hne
  have hd : (n != -9223372036854775808) = true := by simpa using hne
  have hm1 : (m == 0) = false := by have := hm0.out; simpa using this
  have hw1 : IntKind.i64.wrap (n.tdiv m) = n.tdiv m := by rw [IntKind.wrap_i64]; unfold In64 at i1; omega
  have hw2 : IntKind.i64.wrap (n.tmod m) = n.tmod m := by rw [IntKind.wrap_i64]; unfold In64 at i2; omega
  have hm2 := hm0.out
  clear hn hne
  go_enter Try.func73, Try.ntmps73
  go_wp2_with fail
  go_region
  all_goals (go_wp2_with fail)
  all_goals refine bodyPost_ret (v := .tuple #[.agg #[.int .i64 (n.tdiv m), .slice none 0 0, .bool false], .agg #[.int .i64 (n.tmod m), .slice none 0 0, .bool false]]) (by simp [results, Try.results73, go_sem]) rfl ⟨⟨_, none, 0, 0, false⟩, ⟨_, none, 0, 0, false⟩, rfl, ZR.small rfl i1, ZR.small rfl i2, (Own.four w _ _ _ _ _ _ _ _).1.drew⟩

set_option maxRecDepth 100000 in
set_option maxHeartbeats 8000000 in
theorem num_Quo1 (z y : Zv) (n m : Int) (w : World) (hz : ZR w z n) (hy : ZR w y m) (hF : Fit n) (hG : Fit m) (hm0 : Hid (m ≠ 0)) (h1 : z.A.isNone = false) :
    Calls Try.prog 73 #[.agg #[.int .i64 z.x, .slice z.A z.l z.c, .bool z.g], .agg #[.int .i64 y.x, .slice y.A y.l y.c, .bool y.g]] w (PZZ w (n.tdiv m) (n.tmod m)) := by
  have hu := Try.underlying45
  have hO0 := Lib.hid (Own.four w 45 45 45 45 #[.int .i64 z.x, .slice z.A z.l z.c, .bool z.g] #[.int .i64 y.x, .slice y.A y.l y.c, .bool y.g] #[.int .i64 0, .slice none 0 0, .bool false] #[.int .i64 0, .slice none 0 0, .bool false])
  go_enter Try.func73, Try.ntmps73
  go_upto_if 24 with (fail)
  go_cut [6] (fun v5 wc => Hid (Own w [(45, #[.int .i64 z.x, .slice z.A z.l z.c, .bool z.g]), (45, #[.int .i64 y.x, .slice y.A y.l y.c, .bool y.g]), (45, #[.int .i64 0, .slice none 0 0, .bool false]), (45, #[.int .i64 0, .slice none 0 0, .bool false])] wc))
  case first =>
    go_wp2_with fail
    go_meet
    exact hO0
  case rest =>
    have hO := Lib.hid hcut.out
    clear hcut
    obtain ⟨hz0, hz1, hz2, -, -, -⟩ := blk3 hO.out.b0
    go_wp2_with fail
    refine (num_words z n _ (hO.out.zr hz)).mono ?_
    rintro e w1 ⟨A, l, c, xs, rfl, hU, hT, hv, hb1⟩
    have hlA := hF.len hU hT hv
    have hv1 := Lib.hid hv
    have hO1 := Lib.hid (hO.out.call hb1)
    obtain ⟨hy0, hy1, hy2, -, -, -⟩ := blk3 hO1.out.b1
    clear hv hb1 hz0 hz1 hz2
    go_wp2_with fail
    refine (num_words y m _ (hO1.out.zr hy)).mono ?_
    rintro e w2 ⟨B, k, d, ys, rfl, hV, hT2, hv, hb2⟩
    have hlB := hG.len hV hT2 hv
    have hv2 := Lib.hid hv
    have hO2 := Lib.hid (hO1.out.call hb2)
    have hU2 := hU.below hb2 (Nat.le_refl _)
    have hk0 : Hid (0 < k) := by
      have h1 := hV.1
      have h2 := hv2.out
      have h3 := hm0.out
      show 0 < k
      rcases Nat.eq_zero_or_pos k with rfl | h
      · rw [List.eq_nil_of_length_eq_zero h1] at h2
        simp [val] at h2
        omega
      · exact h
    clear hv hb2 hU hy0 hy1 hy2
    go_wp2_with fail
    refine (num_quoWords A B l c k d xs ys _ hU2 hV hT hT2 hlA hlB hk0.out).mono ?_
    rintro e w3 ⟨C, l3, k3, qs, D, p3, r3, rs, rfl, hQ, hR, hq, hr, hl3, hp3, hb3⟩
    have hO3 := Lib.hid (hO2.out.call hb3)
    have hq := Lib.hid hq
    have hr := Lib.hid hr
    clear hb3
    go_wp2_with fail
    refine (num_made C l3 k3 _ qs _ hQ (by omega) (n.tdiv m) (quo_sign hv1.out hv2.out hq.out)).mono ?_
    rintro e w4 ⟨z4, rfl, hz4, hb4⟩
    have hO4 := Lib.hid (hO3.out.call hb4)
    have hR4 := hR.below hb4 (Nat.le_refl _)
    clear hb4
    go_wp2_with fail
    refine (num_made D p3 r3 _ rs _ hR4 (by omega) (n.tmod m) (rem_sign hv1.out hv2.out hr.out)).mono ?_
    rintro e w5 ⟨z5, rfl, hz5, hb5⟩
    have hO5 := Lib.hid (hO4.out.call hb5)
    have hz4' := hz4.below hb5 (Nat.le_refl _)
    obtain ⟨hc0, hc1, hc2, hf0, hf1, hf2⟩ := blk3 hO5.out.b2
    obtain ⟨hd0, hd1, hd2, hg0, hg1, hg2⟩ := blk3 hO5.out.b3
    clear hb5
    go_wp2_with fail
    refine bodyPost_ret (v := .tuple #[.agg #[.int .i64 z4.x, .slice z4.A z4.l z4.c, .bool z4.g], .agg #[.int .i64 z5.x, .slice z5.A z5.l z5.c, .bool z5.g]]) (by simp [results, Try.results73, go_sem, hc0, hc1, hc2, hf0, hf1, hf2, hd0, hd1, hd2, hg0, hg1, hg2]) rfl ?_
    exact quo_end hO5.out hz4' hz5

set_option maxRecDepth 100000 in
set_option maxHeartbeats 8000000 in
theorem num_Quo2 (z y : Zv) (n m : Int) (w : World) (hz : ZR w z n) (hy : ZR w y m) (hF : Fit n) (hG : Fit m) (hm0 : Hid (m ≠ 0)) (h1 : z.A.isNone = true) (h2 : y.A.isNone = false) :
    Calls Try.prog 73 #[.agg #[.int .i64 z.x, .slice z.A z.l z.c, .bool z.g], .agg #[.int .i64 y.x, .slice y.A y.l y.c, .bool y.g]] w (PZZ w (n.tdiv m) (n.tmod m)) := by
  have hu := Try.underlying45
  have hO0 := Lib.hid (Own.four w 45 45 45 45 #[.int .i64 z.x, .slice z.A z.l z.c, .bool z.g] #[.int .i64 y.x, .slice y.A y.l y.c, .bool y.g] #[.int .i64 0, .slice none 0 0, .bool false] #[.int .i64 0, .slice none 0 0, .bool false])
  go_enter Try.func73, Try.ntmps73
  go_upto_if 24 with (fail)
  go_cut [6] (fun v5 wc => Hid (Own w [(45, #[.int .i64 z.x, .slice z.A z.l z.c, .bool z.g]), (45, #[.int .i64 y.x, .slice y.A y.l y.c, .bool y.g]), (45, #[.int .i64 0, .slice none 0 0, .bool false]), (45, #[.int .i64 0, .slice none 0 0, .bool false])] wc))
  case first =>
    go_wp2_with fail
    go_meet
    exact hO0
  case rest =>
    have hO := Lib.hid hcut.out
    clear hcut
    obtain ⟨hz0, hz1, hz2, -, -, -⟩ := blk3 hO.out.b0
    go_wp2_with fail
    refine (num_words z n _ (hO.out.zr hz)).mono ?_
    rintro e w1 ⟨A, l, c, xs, rfl, hU, hT, hv, hb1⟩
    have hlA := hF.len hU hT hv
    have hv1 := Lib.hid hv
    have hO1 := Lib.hid (hO.out.call hb1)
    obtain ⟨hy0, hy1, hy2, -, -, -⟩ := blk3 hO1.out.b1
    clear hv hb1 hz0 hz1 hz2
    go_wp2_with fail
    refine (num_words y m _ (hO1.out.zr hy)).mono ?_
    rintro e w2 ⟨B, k, d, ys, rfl, hV, hT2, hv, hb2⟩
    have hlB := hG.len hV hT2 hv
    have hv2 := Lib.hid hv
    have hO2 := Lib.hid (hO1.out.call hb2)
    have hU2 := hU.below hb2 (Nat.le_refl _)
    have hk0 : Hid (0 < k) := by
      have h1 := hV.1
      have h2 := hv2.out
      have h3 := hm0.out
      show 0 < k
      rcases Nat.eq_zero_or_pos k with rfl | h
      · rw [List.eq_nil_of_length_eq_zero h1] at h2
        simp [val] at h2
        omega
      · exact h
    clear hv hb2 hU hy0 hy1 hy2
    go_wp2_with fail
    refine (num_quoWords A B l c k d xs ys _ hU2 hV hT hT2 hlA hlB hk0.out).mono ?_
    rintro e w3 ⟨C, l3, k3, qs, D, p3, r3, rs, rfl, hQ, hR, hq, hr, hl3, hp3, hb3⟩
    have hO3 := Lib.hid (hO2.out.call hb3)
    have hq := Lib.hid hq
    have hr := Lib.hid hr
    clear hb3
    go_wp2_with fail
    refine (num_made C l3 k3 _ qs _ hQ (by omega) (n.tdiv m) (quo_sign hv1.out hv2.out hq.out)).mono ?_
    rintro e w4 ⟨z4, rfl, hz4, hb4⟩
    have hO4 := Lib.hid (hO3.out.call hb4)
    have hR4 := hR.below hb4 (Nat.le_refl _)
    clear hb4
    go_wp2_with fail
    refine (num_made D p3 r3 _ rs _ hR4 (by omega) (n.tmod m) (rem_sign hv1.out hv2.out hr.out)).mono ?_
    rintro e w5 ⟨z5, rfl, hz5, hb5⟩
    have hO5 := Lib.hid (hO4.out.call hb5)
    have hz4' := hz4.below hb5 (Nat.le_refl _)
    obtain ⟨hc0, hc1, hc2, hf0, hf1, hf2⟩ := blk3 hO5.out.b2
    obtain ⟨hd0, hd1, hd2, hg0, hg1, hg2⟩ := blk3 hO5.out.b3
    clear hb5
    go_wp2_with fail
    refine bodyPost_ret (v := .tuple #[.agg #[.int .i64 z4.x, .slice z4.A z4.l z4.c, .bool z4.g], .agg #[.int .i64 z5.x, .slice z5.A z5.l z5.c, .bool z5.g]]) (by simp [results, Try.results73, go_sem, hc0, hc1, hc2, hf0, hf1, hf2, hd0, hd1, hd2, hg0, hg1, hg2]) rfl ?_
    exact quo_end hO5.out hz4' hz5

set_option maxRecDepth 100000 in
set_option maxHeartbeats 8000000 in
theorem num_Quo3 (z y : Zv) (n m : Int) (w : World) (hz : ZR w z n) (hy : ZR w y m) (hF : Fit n) (hG : Fit m) (hm0 : Hid (m ≠ 0)) (h1 : z.A.isNone = true) (h2 : y.A.isNone = true) (h3 : (z.x != -9223372036854775808) = false) :
    Calls Try.prog 73 #[.agg #[.int .i64 z.x, .slice z.A z.l z.c, .bool z.g], .agg #[.int .i64 y.x, .slice y.A y.l y.c, .bool y.g]] w (PZZ w (n.tdiv m) (n.tmod m)) := by
  have hu := Try.underlying45
  have hO0 := Lib.hid (Own.four w 45 45 45 45 #[.int .i64 z.x, .slice z.A z.l z.c, .bool z.g] #[.int .i64 y.x, .slice y.A y.l y.c, .bool y.g] #[.int .i64 0, .slice none 0 0, .bool false] #[.int .i64 0, .slice none 0 0, .bool false])
  go_enter Try.func73, Try.ntmps73
  go_upto_if 24 with (fail)
  go_cut [6] (fun v5 wc => Hid (Own w [(45, #[.int .i64 z.x, .slice z.A z.l z.c, .bool z.g]), (45, #[.int .i64 y.x, .slice y.A y.l y.c, .bool y.g]), (45, #[.int .i64 0, .slice none 0 0, .bool false]), (45, #[.int .i64 0, .slice none 0 0, .bool false])] wc))
  case first =>
    go_wp2_with fail
    go_meet
    exact hO0
  case rest =>
    have hO := Lib.hid hcut.out
    clear hcut
    obtain ⟨hz0, hz1, hz2, -, -, -⟩ := blk3 hO.out.b0
    go_wp2_with fail
    refine (num_words z n _ (hO.out.zr hz)).mono ?_
    rintro e w1 ⟨A, l, c, xs, rfl, hU, hT, hv, hb1⟩
    have hlA := hF.len hU hT hv
    have hv1 := Lib.hid hv
    have hO1 := Lib.hid (hO.out.call hb1)
    obtain ⟨hy0, hy1, hy2, -, -, -⟩ := blk3 hO1.out.b1
    clear hv hb1 hz0 hz1 hz2
    go_wp2_with fail
    refine (num_words y m _ (hO1.out.zr hy)).mono ?_
    rintro e w2 ⟨B, k, d, ys, rfl, hV, hT2, hv, hb2⟩
    have hlB := hG.len hV hT2 hv
    have hv2 := Lib.hid hv
    have hO2 := Lib.hid (hO1.out.call hb2)
    have hU2 := hU.below hb2 (Nat.le_refl _)
    have hk0 : Hid (0 < k) := by
      have h1 := hV.1
      have h2 := hv2.out
      have h3 := hm0.out
      show 0 < k
      rcases Nat.eq_zero_or_pos k with rfl | h
      · rw [List.eq_nil_of_length_eq_zero h1] at h2
        simp [val] at h2
        omega
      · exact h
    clear hv hb2 hU hy0 hy1 hy2
    go_wp2_with fail
    refine (num_quoWords A B l c k d xs ys _ hU2 hV hT hT2 hlA hlB hk0.out).mono ?_
    rintro e w3 ⟨C, l3, k3, qs, D, p3, r3, rs, rfl, hQ, hR, hq, hr, hl3, hp3, hb3⟩
    have hO3 := Lib.hid (hO2.out.call hb3)
    have hq := Lib.hid hq
    have hr := Lib.hid hr
    clear hb3
    go_wp2_with fail
    refine (num_made C l3 k3 _ qs _ hQ (by omega) (n.tdiv m) (quo_sign hv1.out hv2.out hq.out)).mono ?_
    rintro e w4 ⟨z4, rfl, hz4, hb4⟩
    have hO4 := Lib.hid (hO3.out.call hb4)
    have hR4 := hR.below hb4 (Nat.le_refl _)
    clear hb4
    go_wp2_with fail
    refine (num_made D p3 r3 _ rs _ hR4 (by omega) (n.tmod m) (rem_sign hv1.out hv2.out hr.out)).mono ?_
    rintro e w5 ⟨z5, rfl, hz5, hb5⟩
    have hO5 := Lib.hid (hO4.out.call hb5)
    have hz4' := hz4.below hb5 (Nat.le_refl _)
    obtain ⟨hc0, hc1, hc2, hf0, hf1, hf2⟩ := blk3 hO5.out.b2
    obtain ⟨hd0, hd1, hd2, hg0, hg1, hg2⟩ := blk3 hO5.out.b3
    clear hb5
    go_wp2_with fail
    refine bodyPost_ret (v := .tuple #[.agg #[.int .i64 z4.x, .slice z4.A z4.l z4.c, .bool z4.g], .agg #[.int .i64 z5.x, .slice z5.A z5.l z5.c, .bool z5.g]]) (by simp [results, Try.results73, go_sem, hc0, hc1, hc2, hf0, hf1, hf2, hd0, hd1, hd2, hg0, hg1, hg2]) rfl ?_
    exact quo_end hO5.out hz4' hz5

set_option maxHeartbeats 1000000 in
theorem num_Quo (z y : Zv) (n m : Int) (w : World) (hz : ZR w z n) (hy : ZR w y m) (hF : Fit n) (hG : Fit m) (hm0 : Hid (m ≠ 0)) :
    Calls Try.prog 73 #[.agg #[.int .i64 z.x, .slice z.A z.l z.c, .bool z.g], .agg #[.int .i64 y.x, .slice y.A y.l y.c, .bool y.g]] w (PZZ w (n.tdiv m) (n.tmod m)) := by
  rcases hA : z.A.isNone with _ | _
  · exact num_Quo1 z y n m w hz hy hF hG hm0 hA
  · rcases hB : y.A.isNone with _ | _
    · exact num_Quo2 z y n m w hz hy hF hG hm0 hA hB
    · obtain ⟨e1, i1⟩ := isNone_small hz hA
      obtain ⟨e2, i2⟩ := isNone_small hy hB
      by_cases h : n = -9223372036854775808
      · exact num_Quo3 z y n m w hz hy hF hG hm0 hA hB (by rw [e1]; simpa using h)
      · subst e1
        subst e2
        exact num_QuoF n m w i1 h hm0

end Go.Proofs.Ytgoojlnfobjplaa
