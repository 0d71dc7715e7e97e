/- What the package num does with fractions: a fraction in lowest terms. -/
import Derived.Test.YtgoojlnfobjplaaZk
namespace Go.Proofs.Ytgoojlnfobjplaa
open Go.RowKit
set_option linter.unusedSimpArgs false
set_option linter.unusedVariables false
attribute [local go_sem] qn30 qe30

/-- a fraction is returned -/
def PQ (w : World) (r : Rat) (e : Ending) (w' : World) : Prop :=
  ∃ q : Qv, e = .returned (.agg #[.int .i64 q.n.x, .slice q.n.A q.n.l q.n.c, .bool q.n.g, .int .i64 q.d.x, .slice q.d.A q.d.l q.d.c, .bool q.d.g]) ∧ QR w' q r ∧ Below w.heap.size w w'

theorem SetB.set6 (w : World) (g : Nat) (a b c d e f : Nat) (u1 u2 u3 u4 u5 u6 : Value) : SetB g w ((((((w.setCell ⟨g, a, none⟩ u1).setCell ⟨g, b, none⟩ u2).setCell ⟨g, c, none⟩ u3).setCell ⟨g, d, none⟩ u4).setCell ⟨g, e, none⟩ u5).setCell ⟨g, f, none⟩ u6) :=
  ((((((SetB.refl g w).setCell rfl _).setCell rfl _).setCell rfl _).setCell rfl _).setCell rfl _).setCell rfl _

theorem Own.set6 {w w1 : World} {bs : List (TypeId × Array Value)} (h : Own w bs w1) (i : Nat) (a b c d e f : Nat) (u1 u2 u3 u4 u5 u6 : Value) : Below w.heap.size w ((((((w1.setCell ⟨w.heap.size + i, a, none⟩ u1).setCell ⟨w.heap.size + i, b, none⟩ u2).setCell ⟨w.heap.size + i, c, none⟩ u3).setCell ⟨w.heap.size + i, d, none⟩ u4).setCell ⟨w.heap.size + i, e, none⟩ u5).setCell ⟨w.heap.size + i, f, none⟩ u6) :=
  (((((h.1.setCell (p := ⟨w.heap.size + i, a, none⟩) (Nat.le_add_right _ _) _).setCell (p := ⟨w.heap.size + i, b, none⟩) (Nat.le_add_right _ _) _).setCell (p := ⟨w.heap.size + i, c, none⟩) (Nat.le_add_right _ _) _).setCell (p := ⟨w.heap.size + i, d, none⟩) (Nat.le_add_right _ _) _).setCell (p := ⟨w.heap.size + i, e, none⟩) (Nat.le_add_right _ _) _).setCell (p := ⟨w.heap.size + i, f, none⟩) (Nat.le_add_right _ _) _

theorem oneput {w w2 : World} {za z1 : Zv} {t : TypeId} {bs : List (TypeId × Array Value)} (hO : Own w bs w2) (i : Nat) (hi : bs[i]? = some (t, #[.int .i64 za.x, .slice za.A za.l za.c, .bool za.g])) {w' : World}
    (hw : w' = (((w2.setCell ⟨w.heap.size + i, 0, none⟩ (.int .i64 z1.x)).setCell ⟨w.heap.size + i, 1, none⟩ (.slice z1.A z1.l z1.c)).setCell ⟨w.heap.size + i, 2, none⟩ (.bool z1.g))) :
    Own w (bs.set i (t, #[.int .i64 z1.x, .slice z1.A z1.l z1.c, .bool z1.g])) w' ∧ ∀ z n, ZR w2 z n → ZR w' z n := by
  subst hw
  exact ⟨hO.put i hi _ _ _, fun z n h => h.set (NoW.z (hO.blk i hi)) (SetB.set3 _ _ _ _ _ _ _ _)⟩

set_option maxRecDepth 100000 in
set_option maxHeartbeats 16000000 in
theorem num_Over (z y : Zv) (n m : Int) (w : World) (hz : ZR w z n) (hy : ZR w y m) (hF : Fit n) (hG : Fit m) (hm0 : Hid (m ≠ 0)) :
    Calls Try.prog 47 #[.agg #[.int .i64 z.x, .slice z.A z.l z.c, .bool z.g], .agg #[.int .i64 y.x, .slice y.A y.l y.c, .bool y.g]] w (PQ w (Rat.divInt n m)) := by
  have hu := Try.underlying45
  have hO0 := Lib.hid (Own.three w 45 45 47 #[.int .i64 z.x, .slice z.A z.l z.c, .bool z.g] #[.int .i64 y.x, .slice y.A y.l y.c, .bool y.g] #[.int .i64 0, .slice none 0 0, .bool false, .int .i64 0, .slice none 0 0, .bool false])
  go_enter Try.func47, Try.ntmps47
  go_wp2_with fail
  refine (num_Sign y m _ (hO0.out.zr hy)).mono ?_
  rintro e w1 ⟨he, hb1⟩
  have hO1 := Lib.hid (hO0.out.call hb1)
  have hz1 := (hO1.out.zr hz)
  have hy1 := (hO1.out.zr hy)
  clear hb1 hO0
  have hm : m < 0 ∨ 0 < m := by have := hm0.out; omega
  obtain ⟨q, he', hq⟩ : ∃ q : Int, e = .returned (.int .i64 q) ∧ ((q < 0 ∧ m < 0) ∨ (¬ q < 0 ∧ 0 < m)) := by
    rcases hm with h | h
    · exact ⟨-1, by rw [he, Int.sign_eq_neg_one_of_neg h], .inl ⟨by omega, h⟩⟩
    · exact ⟨1, by rw [he, Int.sign_eq_one_of_pos h], .inr ⟨by omega, h⟩⟩
  subst he'
  clear he hm
  go_upto_if 8 with (fail)
  go_cut [9] (fun v9 wr => ∃ (a b : Int) (za zb : Zv), Hid (Own w [(45, #[.int .i64 za.x, .slice za.A za.l za.c, .bool za.g]), (45, #[.int .i64 zb.x, .slice zb.A zb.l zb.c, .bool zb.g]), (47, #[.int .i64 0, .slice none 0 0, .bool false, .int .i64 0, .slice none 0 0, .bool false])] wr) ∧ ZR wr za a ∧ ZR wr zb b ∧ Hid (0 < b) ∧ Hid (Rat.divInt a b = Rat.divInt n m) ∧ Fit a ∧ Fit b)
  case first =>
    rcases hq with ⟨hq1, hq2⟩ | ⟨hq1, hq2⟩
    · have hq2 := Lib.hid hq2
      obtain ⟨k0, k1, k2, -, -, -⟩ := blk3 hO1.out.b0
      obtain ⟨k3, k4, k5, -, -, -⟩ := blk3 hO1.out.b1
      go_upto_region 2 with (fail)
      go_region_with (first
        | (go_at_call_of 44 (Value.agg #[.int .i64 z.x, .slice z.A z.l z.c, .bool z.g]); refine (num_Neg z n _ hz1.drew hF).mono ?_; rintro e w2 ⟨z2, rfl, hz2, hb2⟩; have hO2 := Lib.hid (hO1.out.drew.call hb2); have hy2 := hy1.drew.below hb2 (Nat.le_refl _); clear hb2; obtain ⟨l3, l4, l5, -, -, -⟩ := blk3 hO2.out.b1)
        | (go_at_call_of 44 (Value.agg #[.int .i64 y.x, .slice y.A y.l y.c, .bool y.g]); refine (num_Neg y m _ hy2 hG).mono ?_; rintro e w3 ⟨z3, rfl, hz3, hb3⟩; have hO3 := Lib.hid (hO2.out.call hb3); have hz2' := hz2.below hb3 (Nat.le_refl _); clear hb3; obtain ⟨c0, c1, c2, f0, f1, f2⟩ := blk3 hO3.out.b0; obtain ⟨c3, c4, c5, f3, f4, f5⟩ := blk3 hO3.out.b1))
      all_goals
        go_wp2_with fail
        go_meet
        obtain ⟨q1, q2, q3⟩ := twoput hO3.out hz2' hz3 rfl
        exact ⟨-n, -m, z2, z3, q1, q2, q3, by have := hq2.out; show 0 < -m; omega, over_neg, hF.neg, hG.neg⟩
    · go_wp2_with fail
      go_meet
      exact ⟨n, m, z, y, hO1, hz1, hy1, hq2, rfl, hF, hG⟩
  case rest =>
    obtain ⟨a, b, za, zb, hO, hza, hzb, hbp, hr, hFa, hFb⟩ := hcut
    clear hO1 hq hz1 hy1
    obtain ⟨c0, c1, c2, -, -, -⟩ := blk3 hO.out.b0
    obtain ⟨c3, c4, c5, -, -, -⟩ := blk3 hO.out.b1
    go_wp2_with fail
    refine (num_Gcd za zb a b _ hza hzb hFa hFb).mono ?_
    rintro e w1' ⟨zg, rfl, hzg, hb1⟩
    obtain ⟨g, hg⟩ : ∃ g : Nat, Hid (g = Int.gcd a b) := ⟨_, rfl⟩
    have hgp : Hid (0 < g) := by have h1 := hg.out; have h2 := hbp.out; show 0 < g; rw [h1]; exact Int.gcd_pos_of_ne_zero_right _ (by omega)
    have hFg : Fit (g : Int) := hFb.le (by have h1 := hg.out; have h2 := hbp.out; rw [h1]; simp; exact Nat.le_of_dvd (by omega) (by have := Int.gcd_dvd_natAbs_right a b; exact this))
    have hzg' : ZR w1' zg (g : Int) := by have h1 := hg.out; rw [h1]; exact hzg
    have hO1 := Lib.hid (hO.out.call hb1)
    have hza1 := hza.below hb1 (Nat.le_refl _)
    have hzb1 := hzb.below hb1 (Nat.le_refl _)
    clear hb1 c0 c1 c2 c3 c4 c5 hzg
    have hs3 : w.heap.size + 3 ≤ w1'.heap.size := hO1.out.2.1
    have ne1 : w1'.heap.size ≠ w.heap.size := by omega
    have ne2 : w.heap.size ≠ w1'.heap.size := by omega
    have ne3 : w1'.heap.size ≠ w.heap.size + 1 := by omega
    have ne4 : w.heap.size + 1 ≠ w1'.heap.size := by omega
    go_upto_region 4 with (fail)
    obtain ⟨w2, hw2⟩ : ∃ w2 : World, w2 = w1'.alloc (.cells #[.int .i64 zg.x, .slice zg.A zg.l zg.c, .bool zg.g] 45) := ⟨_, rfl⟩
    have hbw : Below w1'.heap.size w1' w2 := by rw [hw2]; exact (Below.refl _ _).alloc (Nat.le_refl _) _
    have hO2 := Lib.hid (hO1.out.call hbw)
    have hza2 := hza1.below hbw (Nat.le_refl _)
    have hzb2 := hzb1.below hbw (Nat.le_refl _)
    have hzg2 := hzg'.below hbw (Nat.le_refl _)
    have hB5 : Blk w2 w1'.heap.size 45 #[.int .i64 zg.x, .slice zg.A zg.l zg.c, .bool zg.g] := by rw [hw2]; exact Blk.new _ _ _
    rw [← hw2]
    clear hbw hw2
    obtain ⟨d0, d1, d2, -, -, -⟩ := blk3 hB5
    obtain ⟨k0, k1, k2, -, -, -⟩ := blk3 hO2.out.b0
    have hB5 := Lib.hid hB5
    rcases hA : zg.A.isNone with _ | _
    · go_upto_if 23 with (fail)
      go_cut [24] (fun v9 wr => ∃ (zc zd : Zv), Hid (Own w [(45, #[.int .i64 zc.x, .slice zc.A zc.l zc.c, .bool zc.g]), (45, #[.int .i64 zd.x, .slice zd.A zd.l zd.c, .bool zd.g]), (47, #[.int .i64 0, .slice none 0 0, .bool false, .int .i64 0, .slice none 0 0, .bool false])] wr) ∧ ZR wr zc (Rat.divInt n m).num ∧ ZR wr zd ((Rat.divInt n m).den : Int))
      case first =>
        go_wp2_with fail
        refine (num_Quo za zg a g _ hza2 hzg2 hFa hFg (by show (g : Int) ≠ 0; have := hgp.out; omega)).mono ?_
        rintro e w3 ⟨z4, z5, rfl, hz4, -, hb3⟩
        have hO3 := Lib.hid (hO2.out.call hb3)
        have hzb3 := hzb2.below hb3 (Nat.le_refl _)
        have hzg3 := hzg2.below hb3 (Nat.le_refl _)
        have hB3 := hB5.out.below hb3 (hB5.out.lt)
        clear hb3 d0 d1 d2 k0 k1 k2
        obtain ⟨c0, c1, c2, f0, f1, f2⟩ := blk3 hO3.out.b0
        obtain ⟨c3, c4, c5, -, -, -⟩ := blk3 hO3.out.b1
        obtain ⟨d0, d1, d2, -, -, -⟩ := blk3 hB3
        have hB3 := Lib.hid hB3
        go_wp2_with fail
        obtain ⟨w4, hw4⟩ : ∃ w4 : World, w4 = (((w3.setCell ⟨w.heap.size, 0, none⟩ (.int .i64 z4.x)).setCell ⟨w.heap.size, 1, none⟩ (.slice z4.A z4.l z4.c)).setCell ⟨w.heap.size, 2, none⟩ (.bool z4.g)) := ⟨_, rfl⟩
        obtain ⟨hO4, keep⟩ := oneput hO3.out 0 rfl hw4
        have hzb4 := keep _ _ hzb3
        have hzg4 := keep _ _ hzg3
        have hz4' := keep _ _ hz4
        rw [← hw4]
        clear hw4 keep c0 c1 c2 c3 c4 c5 d0 d1 d2 f0 f1 f2
        have hO4 := Lib.hid hO4
        refine (num_Quo zb zg b g _ hzb4 hzg4 hFb hFg (by show (g : Int) ≠ 0; have := hgp.out; omega)).mono ?_
        rintro e w5 ⟨z6, z7, rfl, hz6, -, hb5⟩
        have hO5 := Lib.hid (hO4.out.call hb5)
        have hz4'' := hz4'.below hb5 (Nat.le_refl _)
        clear hb5
        obtain ⟨c3, c4, c5, f3, f4, f5⟩ := blk3 (Own.b1 hO5.out)
        go_wp2_with fail
        go_meet
        obtain ⟨hO6, keep6⟩ := oneput (z1 := z6) hO5.out 1 rfl rfl
        have e1 := over_num (n := a) hbp.out
        have e2 := over_den (n := a) hbp.out
        rw [hr.out] at e1 e2
        rw [hg.out] at hz4'' hz6
        exact ⟨z4, z6, hO6, by rw [e1]; exact keep6 _ _ hz4'', by rw [e2]; exact keep6 _ _ hz6⟩
      case rest =>
        obtain ⟨zc, zd, hO9, hc9, hd9⟩ := hcut
        clear hO1 hO2 hB5 d0 d1 d2 k0 k1 k2
        obtain ⟨c0, c1, c2, -, -, -⟩ := blk3 hO9.out.b0
        obtain ⟨c3, c4, c5, -, -, -⟩ := blk3 hO9.out.b1
        obtain ⟨⟨e0, e1, e2, e3, e4, e5⟩, f0, f1, f2, f3, f4, f5⟩ := blk6 hO9.out.b2
        go_wp2_with fail
        refine bodyPost_ret (v := .agg #[.int .i64 zc.x, .slice zc.A zc.l zc.c, .bool zc.g, .int .i64 zd.x, .slice zd.A zd.l zd.c, .bool zd.g]) (by simp [results, Try.results47, go_sem, e0, e1, e2, e3, e4, e5, f0, f1, f2, f3, f4, f5]) rfl ⟨⟨zc, zd⟩, rfl, QR.set ⟨hc9, hd9⟩ (NoW.q hO9.out.b2) (SetB.set6 _ _ _ _ _ _ _ _ _ _ _ _ _ _), hO9.out.set6 2 _ _ _ _ _ _ _ _ _ _ _ _⟩
    · obtain ⟨eg, ig⟩ := isNone_small hzg' hA
      have hx : zg.x = (g : Int) := by rw [eg]
      by_cases h1 : g = 1
      · have ht : (zg.x != 1) = false := by rw [hx, h1]; rfl
        clear hx eg
        go_upto_if 23 with (fail)
        go_cut [24] (fun v9 wr => ∃ (zc zd : Zv), Hid (Own w [(45, #[.int .i64 zc.x, .slice zc.A zc.l zc.c, .bool zc.g]), (45, #[.int .i64 zd.x, .slice zd.A zd.l zd.c, .bool zd.g]), (47, #[.int .i64 0, .slice none 0 0, .bool false, .int .i64 0, .slice none 0 0, .bool false])] wr) ∧ ZR wr zc (Rat.divInt n m).num ∧ ZR wr zd ((Rat.divInt n m).den : Int))
        case first =>
          have h1 := Lib.hid h1
          go_wp2_with fail
          go_meet
          obtain ⟨e1, e2⟩ := over_one (n := a) hbp.out (by have h2 := hg.out; have h3 := h1.out; omega)
          rw [hr.out] at e1 e2
          exact ⟨za, zb, hO2, by rw [e1]; exact hza2, by rw [e2]; exact hzb2⟩
        case rest =>
          obtain ⟨zc, zd, hO9, hc9, hd9⟩ := hcut
          clear hO1 hO2 hB5 d0 d1 d2 k0 k1 k2
          obtain ⟨c0, c1, c2, -, -, -⟩ := blk3 hO9.out.b0
          obtain ⟨c3, c4, c5, -, -, -⟩ := blk3 hO9.out.b1
          obtain ⟨⟨e0, e1, e2, e3, e4, e5⟩, f0, f1, f2, f3, f4, f5⟩ := blk6 hO9.out.b2
          go_wp2_with fail
          refine bodyPost_ret (v := .agg #[.int .i64 zc.x, .slice zc.A zc.l zc.c, .bool zc.g, .int .i64 zd.x, .slice zd.A zd.l zd.c, .bool zd.g]) (by simp [results, Try.results47, go_sem, e0, e1, e2, e3, e4, e5, f0, f1, f2, f3, f4, f5]) rfl ⟨⟨zc, zd⟩, rfl, QR.set ⟨hc9, hd9⟩ (NoW.q hO9.out.b2) (SetB.set6 _ _ _ _ _ _ _ _ _ _ _ _ _ _), hO9.out.set6 2 _ _ _ _ _ _ _ _ _ _ _ _⟩
      · have ht : (zg.x != 1) = true := by rw [hx]; simp; omega
        clear hx eg h1
        go_upto_if 23 with (fail)
        go_cut [24] (fun v9 wr => ∃ (zc zd : Zv), Hid (Own w [(45, #[.int .i64 zc.x, .slice zc.A zc.l zc.c, .bool zc.g]), (45, #[.int .i64 zd.x, .slice zd.A zd.l zd.c, .bool zd.g]), (47, #[.int .i64 0, .slice none 0 0, .bool false, .int .i64 0, .slice none 0 0, .bool false])] wr) ∧ ZR wr zc (Rat.divInt n m).num ∧ ZR wr zd ((Rat.divInt n m).den : Int))
        case first =>
          go_wp2_with fail
          refine (num_Quo za zg a g _ hza2 hzg2 hFa hFg (by show (g : Int) ≠ 0; have := hgp.out; omega)).mono ?_
          rintro e w3 ⟨z4, z5, rfl, hz4, -, hb3⟩
          have hO3 := Lib.hid (hO2.out.call hb3)
          have hzb3 := hzb2.below hb3 (Nat.le_refl _)
          have hzg3 := hzg2.below hb3 (Nat.le_refl _)
          have hB3 := hB5.out.below hb3 (hB5.out.lt)
          clear hb3 d0 d1 d2 k0 k1 k2
          obtain ⟨c0, c1, c2, f0, f1, f2⟩ := blk3 hO3.out.b0
          obtain ⟨c3, c4, c5, -, -, -⟩ := blk3 hO3.out.b1
          obtain ⟨d0, d1, d2, -, -, -⟩ := blk3 hB3
          have hB3 := Lib.hid hB3
          go_wp2_with fail
          obtain ⟨w4, hw4⟩ : ∃ w4 : World, w4 = (((w3.setCell ⟨w.heap.size, 0, none⟩ (.int .i64 z4.x)).setCell ⟨w.heap.size, 1, none⟩ (.slice z4.A z4.l z4.c)).setCell ⟨w.heap.size, 2, none⟩ (.bool z4.g)) := ⟨_, rfl⟩
          obtain ⟨hO4, keep⟩ := oneput hO3.out 0 rfl hw4
          have hzb4 := keep _ _ hzb3
          have hzg4 := keep _ _ hzg3
          have hz4' := keep _ _ hz4
          rw [← hw4]
          clear hw4 keep c0 c1 c2 c3 c4 c5 d0 d1 d2 f0 f1 f2
          have hO4 := Lib.hid hO4
          refine (num_Quo zb zg b g _ hzb4 hzg4 hFb hFg (by show (g : Int) ≠ 0; have := hgp.out; omega)).mono ?_
          rintro e w5 ⟨z6, z7, rfl, hz6, -, hb5⟩
          have hO5 := Lib.hid (hO4.out.call hb5)
          have hz4'' := hz4'.below hb5 (Nat.le_refl _)
          clear hb5
          obtain ⟨c3, c4, c5, f3, f4, f5⟩ := blk3 (Own.b1 hO5.out)
          go_wp2_with fail
          go_meet
          obtain ⟨hO6, keep6⟩ := oneput (z1 := z6) hO5.out 1 rfl rfl
          have e1 := over_num (n := a) hbp.out
          have e2 := over_den (n := a) hbp.out
          rw [hr.out] at e1 e2
          rw [hg.out] at hz4'' hz6
          exact ⟨z4, z6, hO6, by rw [e1]; exact keep6 _ _ hz4'', by rw [e2]; exact keep6 _ _ hz6⟩
        case rest =>
          obtain ⟨zc, zd, hO9, hc9, hd9⟩ := hcut
          clear hO1 hO2 hB5 d0 d1 d2 k0 k1 k2
          obtain ⟨c0, c1, c2, -, -, -⟩ := blk3 hO9.out.b0
          obtain ⟨c3, c4, c5, -, -, -⟩ := blk3 hO9.out.b1
          obtain ⟨⟨e0, e1, e2, e3, e4, e5⟩, f0, f1, f2, f3, f4, f5⟩ := blk6 hO9.out.b2
          go_wp2_with fail
          refine bodyPost_ret (v := .agg #[.int .i64 zc.x, .slice zc.A zc.l zc.c, .bool zc.g, .int .i64 zd.x, .slice zd.A zd.l zd.c, .bool zd.g]) (by simp [results, Try.results47, go_sem, e0, e1, e2, e3, e4, e5, f0, f1, f2, f3, f4, f5]) rfl ⟨⟨zc, zd⟩, rfl, QR.set ⟨hc9, hd9⟩ (NoW.q hO9.out.b2) (SetB.set6 _ _ _ _ _ _ _ _ _ _ _ _ _ _), hO9.out.set6 2 _ _ _ _ _ _ _ _ _ _ _ _⟩

end Go.Proofs.Ytgoojlnfobjplaa
