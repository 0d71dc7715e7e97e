/- What the package num does with integers: difference, amount, comparison, sign. -/
import Derived.Test.YtgoojlnfobjplaaZp
import Derived.Test.YtgoojlnfobjplaaZc
import Derived.Test.YtgoojlnfobjplaaZd
namespace Go.Proofs.Ytgoojlnfobjplaa
open Go.RowKit
set_option linter.unusedSimpArgs false
set_option linter.unusedVariables false
attribute [local go_sem] qn30 qe30

theorem keep33 {w w1 : World} {z y : Zv} {t : TypeId} {r} (h : Own w ((t, #[.int .i64 z.x, .slice z.A z.l z.c, .bool z.g]) :: (t, #[.int .i64 y.x, .slice y.A y.l y.c, .bool y.g]) :: r) w1) : w1.cell? ⟨w.heap.size, 0, none⟩ = some (.int .i64 z.x) ∧ w1.cell? ⟨w.heap.size, 1, none⟩ = some (.slice z.A z.l z.c) ∧ w1.cell? ⟨w.heap.size, 2, none⟩ = some (.bool z.g) ∧ w1.cell? ⟨w.heap.size + 1, 0, none⟩ = some (.int .i64 y.x) ∧ w1.cell? ⟨w.heap.size + 1, 1, none⟩ = some (.slice y.A y.l y.c) ∧ w1.cell? ⟨w.heap.size + 1, 2, none⟩ = some (.bool y.g) :=
  ⟨h.b0.cell 0, h.b0.cell 1, h.b0.cell 2, h.b1.cell 0, h.b1.cell 1, h.b1.cell 2⟩

theorem keep33s {w w1 w2 : World} {z y : Zv} {t : TypeId} {r} (h : Own w ((t, #[.int .i64 z.x, .slice z.A z.l z.c, .bool z.g]) :: (t, #[.int .i64 y.x, .slice y.A y.l y.c, .bool y.g]) :: r) w1) (hs : SetB (w.heap.size + 1 + 1) w1 w2) : w2.cell? ⟨w.heap.size, 0, none⟩ = some (.int .i64 z.x) ∧ w2.cell? ⟨w.heap.size, 1, none⟩ = some (.slice z.A z.l z.c) ∧ w2.cell? ⟨w.heap.size, 2, none⟩ = some (.bool z.g) ∧ w2.cell? ⟨w.heap.size + 1, 0, none⟩ = some (.int .i64 y.x) ∧ w2.cell? ⟨w.heap.size + 1, 1, none⟩ = some (.slice y.A y.l y.c) ∧ w2.cell? ⟨w.heap.size + 1, 2, none⟩ = some (.bool y.g) := by
  have k : ∀ p : Addr, p.block < w.heap.size + 1 + 1 → w2.cell? p = w1.cell? p := fun p hp => hs.2 p (by omega)
  obtain ⟨h1, h2, h3, h4, h5, h6⟩ := keep33 h
  exact ⟨(k ⟨w.heap.size, 0, none⟩ (by show w.heap.size < _; omega)).trans h1, (k ⟨w.heap.size, 1, none⟩ (by show w.heap.size < _; omega)).trans h2, (k ⟨w.heap.size, 2, none⟩ (by show w.heap.size < _; omega)).trans h3,
    (k ⟨w.heap.size + 1, 0, none⟩ (by show w.heap.size + 1 < _; omega)).trans h4, (k ⟨w.heap.size + 1, 1, none⟩ (by show w.heap.size + 1 < _; omega)).trans h5, (k ⟨w.heap.size + 1, 2, none⟩ (by show w.heap.size + 1 < _; omega)).trans h6⟩

set_option maxRecDepth 100000 in
set_option maxHeartbeats 4000000 in
theorem num_Sub (z y : Zv) (n m : Int) (w : World) (hz : ZR w z n) (hy : ZR w y m) (hF : Fit n) (hG : Fit m) :
    Calls Try.prog 79 #[.agg #[.int .i64 z.x, .slice z.A z.l z.c, .bool z.g], .agg #[.int .i64 y.x, .slice y.A y.l y.c, .bool y.g]] w (PZ w (n - m)) := by
  have hu := Try.underlying45
  have hO0 := Lib.hid (Own.three w 45 45 45 #[.int .i64 z.x, .slice z.A z.l z.c, .bool z.g] #[.int .i64 y.x, .slice y.A y.l y.c, .bool y.g] #[.int .i64 0, .slice none 0 0, .bool false])
  go_enter Try.func79, Try.ntmps79
  go_wp2_with fail
  go_region_held3 (fun w' => w'.cell? ⟨w.heap.size, 0, none⟩ = some (.int .i64 z.x) ∧ w'.cell? ⟨w.heap.size, 1, none⟩ = some (.slice z.A z.l z.c) ∧ w'.cell? ⟨w.heap.size, 2, none⟩ = some (.bool z.g) ∧ w'.cell? ⟨w.heap.size + 1, 0, none⟩ = some (.int .i64 y.x) ∧ w'.cell? ⟨w.heap.size + 1, 1, none⟩ = some (.slice y.A y.l y.c) ∧ w'.cell? ⟨w.heap.size + 1, 2, none⟩ = some (.bool y.g))
    (first | (with_reducible exact keep33s hO2.out (SetB.set3 _ _ _ _ _ _ _ _)) | (with_reducible exact keep33 hO2.out) | (with_reducible exact keep33 hO1.out) | (with_reducible exact keep33 hO0.out.drew) | go_keep)
    (first
      | (go_at_call 44; refine (num_Neg y m _ (hO0.out.drew.zr hy) hG).mono ?_; rintro e w1 ⟨z1, rfl, hz1, hb1⟩; have hO1 := Lib.hid (hO0.out.drew.call hb1); clear hb1)
      | (go_at_call 46; refine (num_Add z z1 n (-m) _ (hO1.out.zr hz) hz1 hF hG.neg).mono ?_; rintro e w2 ⟨z2, rfl, hz2, hb2⟩; have hO2 := Lib.hid (hO1.out.call hb2); obtain ⟨hc0, hc1, hc2, hf0, hf1, hf2⟩ := blk3 hO2.out.b2; clear hb2))
  go_wp2_with fail
  refine bodyPost_ret (v := .agg #[.int .i64 z2.x, .slice z2.A z2.l z2.c, .bool z2.g]) (by simp [results, Try.results79, go_sem, hc0, hc1, hc2, hf0, hf1, hf2]) rfl ⟨z2, rfl, hz2.set (NoW.z (hO2.out).b2) (SetB.set3 _ _ _ _ _ _ _ _), (hO2.out).set3 2 _ _ _ _ _ _⟩

set_option maxRecDepth 100000 in
set_option maxHeartbeats 1000000 in
theorem num_Sign (z : Zv) (n : Int) (w : World) (h : ZR w z n) :
    Calls Try.prog 49 #[.agg #[.int .i64 z.x, .slice z.A z.l z.c, .bool z.g]] w fun e w' => e = .returned (.int .i64 n.sign) ∧ Below w.heap.size w w' := by
  have hu := Try.underlying45
  rcases h.cases3 with ⟨rfl, h1⟩ | ⟨g, o, c, xs, rfl, hU, hl, hv, hn, hs⟩ | ⟨g, o, c, xs, rfl, hU, hl, hv, hn, hs⟩
  · clear h h1
    rcases Int.lt_trichotomy n 0 with hn | rfl | hn
    · have he := Lib.hid (Int.sign_eq_neg_one_of_neg hn)
      have hb : decide (n < 0) = true := by simpa using hn
      go_enter Try.func49, Try.ntmps49
      go_wp2
      go_ret
      exact ⟨by rw [he.out]; rfl, (Below.refl _ _).alloc (Nat.le_refl _) _⟩
    · go_enter Try.func49, Try.ntmps49
      go_wp2
      go_ret
      exact ⟨by rfl, (Below.refl _ _).alloc (Nat.le_refl _) _⟩
    · have he := Lib.hid (Int.sign_eq_one_of_pos hn)
      have hb : decide (n < 0) = false := by simp; omega
      have hz : (n == 0) = false := by simp; omega
      go_enter Try.func49, Try.ntmps49
      go_wp2
      go_ret
      exact ⟨by rw [he.out]; rfl, (Below.refl _ _).alloc (Nat.le_refl _) _⟩
  · clear h
    have he := Lib.hid (Int.sign_eq_one_of_pos hs)
    go_enter Try.func49, Try.ntmps49
    go_wp2
    go_ret
    exact ⟨by rw [he.out]; rfl, (Below.refl _ _).alloc (Nat.le_refl _) _⟩
  · clear h
    have he := Lib.hid (Int.sign_eq_neg_one_of_neg hs)
    go_enter Try.func49, Try.ntmps49
    go_wp2
    go_ret
    exact ⟨by rw [he.out]; rfl, (Below.refl _ _).alloc (Nat.le_refl _) _⟩

set_option maxRecDepth 100000 in
set_option maxHeartbeats 1000000 in
theorem num_Abs (z : Zv) (n : Int) (w : World) (hz : ZR w z n) (hF : Fit n) :
    Calls Try.prog 80 #[.agg #[.int .i64 z.x, .slice z.A z.l z.c, .bool z.g]] w (PZ w (n.natAbs : Int)) := by
  have hu := Try.underlying45
  have hO0 := Lib.hid (Own.two w 45 45 #[.int .i64 z.x, .slice z.A z.l z.c, .bool z.g] #[.int .i64 0, .slice none 0 0, .bool false])
  go_enter Try.func80, Try.ntmps80
  go_wp2_with fail
  refine (num_Sign z n _ (hO0.out.zr hz)).mono ?_
  rintro e w1 ⟨he, hb⟩
  have hO1 := Lib.hid (hO0.out.call hb)
  obtain ⟨hz0, hz1, hz2, -, -, -⟩ := blk3 hO1.out.b0
  clear hb
  by_cases hn : n < 0
  · have hv := Lib.hid (show -n = (n.natAbs : Int) by omega)
    rw [Int.sign_eq_neg_one_of_neg hn] at he
    subst he
    go_wp2_with fail
    refine (num_Neg z n _ (hO1.out.zr hz) hF).mono ?_
    rintro e w2 ⟨z2, rfl, hz2', hb2⟩
    have hO2 := Lib.hid (hO1.out.call hb2)
    obtain ⟨hc0, hc1, hc2, hf0, hf1, hf2⟩ := blk3 hO2.out.b1
    clear hb2
    go_wp2_with fail
    rw [hv.out] at hz2'
    have hz2 := hz2'
    refine bodyPost_ret (v := .agg #[.int .i64 z2.x, .slice z2.A z2.l z2.c, .bool z2.g]) (by simp [results, Try.results80, go_sem, hc0, hc1, hc2, hf0, hf1, hf2]) rfl ⟨z2, rfl, hz2.set (NoW.z (hO2.out).b1) (SetB.set3 _ _ _ _ _ _ _ _), (hO2.out).set3 1 _ _ _ _ _ _⟩
  · have hv := Lib.hid (show n = (n.natAbs : Int) by omega)
    obtain ⟨q, hq, he'⟩ : ∃ q : Int, 0 ≤ q ∧ e = .returned (.int .i64 q) := ⟨n.sign, by rcases Int.lt_trichotomy n 0 with h | h | h <;> simp_all <;> omega, he⟩
    clear he
    subst he'
    obtain ⟨hc0, hc1, hc2, hf0, hf1, hf2⟩ := blk3 hO1.out.b1
    go_wp2_with fail
    have hz' : ZR w1 z (n.natAbs : Int) := by have := hO1.out.zr hz; rwa [← hv.out]
    refine bodyPost_ret (v := .agg #[.int .i64 z.x, .slice z.A z.l z.c, .bool z.g]) (by simp [results, Try.results80, go_sem, hc0, hc1, hc2, hf0, hf1, hf2]) rfl ⟨z, rfl, hz'.set (NoW.z (hO1.out).b1) (SetB.set3 _ _ _ _ _ _ _ _), (hO1.out).set3 1 _ _ _ _ _ _⟩

set_option maxRecDepth 100000 in
set_option maxHeartbeats 1000000 in
theorem num_Cmp (z y : Zv) (n m : Int) (w : World) (hz : ZR w z n) (hy : ZR w y m) (hF : Fit n) (hG : Fit m) :
    Calls Try.prog 68 #[.agg #[.int .i64 z.x, .slice z.A z.l z.c, .bool z.g], .agg #[.int .i64 y.x, .slice y.A y.l y.c, .bool y.g]] w fun e w' => e = .returned (.int .i64 (n - m).sign) ∧ Below w.heap.size w w' := by
  have hu := Try.underlying45
  rcases hA : z.A.isNone with _ | _
  · have hO0 := Lib.hid (Own.two w 45 45 #[.int .i64 z.x, .slice z.A z.l z.c, .bool z.g] #[.int .i64 y.x, .slice y.A y.l y.c, .bool y.g])
    go_enter Try.func68, Try.ntmps68
    go_wp2_with fail
    refine (num_Sub z y n m _ (hO0.out.zr hz) (hO0.out.zr hy) hF hG).mono ?_
    rintro e w1 ⟨z1, rfl, hz1, hb⟩
    have hO1 := Lib.hid (hO0.out.call hb)
    clear hb
    go_wp2_with fail
    refine (num_Sign z1 (n - m) _ hz1).mono ?_
    rintro e w2 ⟨rfl, hb⟩
    have hO2 := Lib.hid (hO1.out.call hb)
    clear hb
    go_wp2_with fail
    go_ret
    exact ⟨rfl, hO2.out.1⟩
  · rcases hB : y.A.isNone with _ | _
    · have hO0 := Lib.hid (Own.two w 45 45 #[.int .i64 z.x, .slice z.A z.l z.c, .bool z.g] #[.int .i64 y.x, .slice y.A y.l y.c, .bool y.g])
      go_enter Try.func68, Try.ntmps68
      go_wp2_with fail
      refine (num_Sub z y n m _ (hO0.out.zr hz) (hO0.out.zr hy) hF hG).mono ?_
      rintro e w1 ⟨z1, rfl, hz1, hb⟩
      have hO1 := Lib.hid (hO0.out.call hb)
      clear hb
      go_wp2_with fail
      refine (num_Sign z1 (n - m) _ hz1).mono ?_
      rintro e w2 ⟨rfl, hb⟩
      have hO2 := Lib.hid (hO1.out.call hb)
      clear hb
      go_wp2_with fail
      go_ret
      exact ⟨rfl, hO2.out.1⟩
    · obtain ⟨rfl, i1⟩ := isNone_small hz hA
      obtain ⟨rfl, i2⟩ := isNone_small hy hB
      clear hA hB i1 i2 hz hy
      rcases Int.lt_trichotomy n m with hn | rfl | hn
      · have he := Lib.hid (Int.sign_eq_neg_one_of_neg (show n - m < 0 by omega))
        have hb : decide (n < m) = true := by simpa using hn
        go_enter Try.func68, Try.ntmps68
        go_wp2_with fail
        go_ret
        exact ⟨by rw [he.out]; rfl, ((Below.refl _ _).alloc (Nat.le_refl _) _).alloc (by simp) _⟩
      · have he := Lib.hid (show (n - n).sign = 0 by simp)
        go_enter Try.func68, Try.ntmps68
        go_wp2_with fail
        go_ret
        exact ⟨by rw [he.out]; rfl, ((Below.refl _ _).alloc (Nat.le_refl _) _).alloc (by simp) _⟩
      · have he := Lib.hid (Int.sign_eq_one_of_pos (show 0 < n - m by omega))
        have hb : decide (n < m) = false := by simp; omega
        have hb : decide (m < n) = true := by simpa using hn
        go_enter Try.func68, Try.ntmps68
        go_wp2_with fail
        go_ret
        exact ⟨by rw [he.out]; rfl, ((Below.refl _ _).alloc (Nat.le_refl _) _).alloc (by simp) _⟩

/-- what Int tells: the value where it is small enough -/
def PInt (w : World) (n most : Int) (e : Ending) (w' : World) : Prop :=
  Below w.heap.size w w' ∧ ((-most ≤ n ∧ n ≤ most ∧ e = .returned (.tuple #[.int .i64 n, .bool true])) ∨ (¬ (-most ≤ n ∧ n ≤ most) ∧ e = .returned (.tuple #[.int .i64 0, .bool false])))

set_option maxRecDepth 100000 in
set_option maxHeartbeats 1000000 in
theorem num_ZInt (z : Zv) (n most : Int) (w : World) (hz : ZR w z n) (h0 : 0 ≤ most) (h1 : most ≤ 1000000000000) :
    Calls Try.prog 50 #[.agg #[.int .i64 z.x, .slice z.A z.l z.c, .bool z.g], .int .i64 most] w (PInt w n most) := by
  have hu := Try.underlying45
  rcases hz.cases3 with ⟨rfl, h2⟩ | ⟨g, o, c, xs, rfl, hU, hl, hv, hn, hs⟩ | ⟨g, o, c, xs, rfl, hU, hl, hv, hn, hs⟩
  · clear hz h2
    rcases Int.lt_or_le most n with hn | hn
    · go_enter Try.func50, Try.ntmps50
      go_wp2_with fail
      go_ret2
      exact ⟨(Below.refl _ _).alloc (Nat.le_refl _) _, .inr ⟨by omega, rfl⟩⟩
    · rcases Int.lt_or_le n (-most) with hm | hm
      · go_enter Try.func50, Try.ntmps50
        go_wp2_with fail
        go_ret2
        exact ⟨(Below.refl _ _).alloc (Nat.le_refl _) _, .inr ⟨by omega, rfl⟩⟩
      · go_enter Try.func50, Try.ntmps50
        go_wp2_with fail
        go_ret2
        exact ⟨(Below.refl _ _).alloc (Nat.le_refl _) _, .inl ⟨hm, hn, rfl⟩⟩
  · clear hz
    go_enter Try.func50, Try.ntmps50
    go_wp2_with fail
    go_ret2
    exact ⟨(Below.refl _ _).alloc (Nat.le_refl _) _, .inr ⟨by have h3 := hv.out; have h4 := hn.out; omega, rfl⟩⟩
  · clear hz
    go_enter Try.func50, Try.ntmps50
    go_wp2_with fail
    go_ret2
    exact ⟨(Below.refl _ _).alloc (Nat.le_refl _) _, .inr ⟨by have h3 := hv.out; have h4 := hn.out; omega, rfl⟩⟩

end Go.Proofs.Ytgoojlnfobjplaa
