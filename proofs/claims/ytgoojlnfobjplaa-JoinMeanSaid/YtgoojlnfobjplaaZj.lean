/- What the package num does with integers: the greatest common divisor. -/
import Derived.Test.YtgoojlnfobjplaaZi
namespace Go.Proofs.Ytgoojlnfobjplaa
open Go.RowKit
set_option linter.unusedSimpArgs false
set_option linter.unusedVariables false
attribute [local go_sem] qn30 qe30

theorem Blk.set3 {w : World} {g : Nat} {t : TypeId} {a b c : Value} (h : Blk w g t #[a, b, c]) (u v x : Value) : Blk (((w.setCell ⟨g, 0, none⟩ u).setCell ⟨g, 1, none⟩ v).setCell ⟨g, 2, none⟩ x) g t #[u, v, x] := by
  unfold Blk at h ⊢
  simp [World.setCell, Array.getElem?_modify, h]

theorem Own.put {w w1 : World} {bs : List (TypeId × Array Value)} (h : Own w bs w1) (i : Nat) {t : TypeId} {a b c : Value} (hi : bs[i]? = some (t, #[a, b, c])) (u v x : Value) :
    Own w (bs.set i (t, #[u, v, x])) (((w1.setCell ⟨w.heap.size + i, 0, none⟩ u).setCell ⟨w.heap.size + i, 1, none⟩ v).setCell ⟨w.heap.size + i, 2, none⟩ x) := by
  refine ⟨h.set3 i 0 1 2 u v x, by rw [List.length_set]; simpa [World.setCell] using h.2.1, fun j t' cs' hj => ?_⟩
  by_cases e : i = j
  · subst e
    rw [List.getElem?_set_self (List.getElem?_eq_some_iff.1 hi).1] at hj
    injection hj with hj
    injection hj with h1 h2
    subst h1 h2
    exact Blk.set3 (h.2.2 i t _ hi) u v x
  · rw [List.getElem?_set_ne e] at hj
    exact (((h.2.2 j t' cs' hj).far (p := ⟨w.heap.size + i, 0, none⟩) (by simp; omega) u).far (p := ⟨w.heap.size + i, 1, none⟩) (by simp; omega) v).far (p := ⟨w.heap.size + i, 2, none⟩) (by simp; omega) x

theorem twoput {w w2 : World} {za zb z1 z2 : Zv} {t : TypeId} {r} {a b : Int} (hO : Own w ((t, #[.int .i64 za.x, .slice za.A za.l za.c, .bool za.g]) :: (t, #[.int .i64 zb.x, .slice zb.A zb.l zb.c, .bool zb.g]) :: r) w2) (h1 : ZR w2 z1 a) (h2 : ZR w2 z2 b) {w' : World}
    (hw : w' = ((((((w2.setCell ⟨w.heap.size, 0, none⟩ (.int .i64 z1.x)).setCell ⟨w.heap.size, 1, none⟩ (.slice z1.A z1.l z1.c)).setCell ⟨w.heap.size, 2, none⟩ (.bool z1.g)).setCell ⟨w.heap.size + 1, 0, none⟩ (.int .i64 z2.x)).setCell ⟨w.heap.size + 1, 1, none⟩ (.slice z2.A z2.l z2.c)).setCell ⟨w.heap.size + 1, 2, none⟩ (.bool z2.g))) :
    Own w ((t, #[.int .i64 z1.x, .slice z1.A z1.l z1.c, .bool z1.g]) :: (t, #[.int .i64 z2.x, .slice z2.A z2.l z2.c, .bool z2.g]) :: r) w' ∧ ZR w' z1 a ∧ ZR w' z2 b := by
  subst hw
  have p1 := hO.put 0 rfl (.int .i64 z1.x) (.slice z1.A z1.l z1.c) (.bool z1.g)
  have s1 := SetB.set3 w2 w.heap.size 0 1 2 (.int .i64 z1.x) (.slice z1.A z1.l z1.c) (.bool z1.g)
  have n1 : NoW w2 w.heap.size := NoW.z hO.b0
  have h1' := h1.set n1 s1
  have h2' := h2.set n1 s1
  rw [Nat.add_zero] at p1
  generalize (((w2.setCell ⟨w.heap.size, 0, none⟩ (.int .i64 z1.x)).setCell ⟨w.heap.size, 1, none⟩ (.slice z1.A z1.l z1.c)).setCell ⟨w.heap.size, 2, none⟩ (.bool z1.g)) = w3 at *
  have p2 := p1.put 1 rfl (.int .i64 z2.x) (.slice z2.A z2.l z2.c) (.bool z2.g)
  have s2 := SetB.set3 w3 (w.heap.size + 1) 0 1 2 (.int .i64 z2.x) (.slice z2.A z2.l z2.c) (.bool z2.g)
  have n2 : NoW w3 (w.heap.size + 1) := NoW.z p1.b1
  exact ⟨p2, h1'.set n2 s2, h2'.set n2 s2⟩

theorem ZR.drew {w : World} {z : Zv} {n : Int} (h : ZR w z n) : ZR w.drew z n := h

theorem gcd_step {a b g : Nat} (h : Hid (Nat.gcd a b = g)) (hb : 0 < b) : Hid (Nat.gcd b (a % b) = g) := by
  have h := h.out
  show _ = _
  rw [← h, Nat.gcd_comm b, Nat.gcd_comm a, Nat.gcd_rec b a]

theorem Fit.le {a b : Int} (h : Fit b) (hle : a.natAbs ≤ b.natAbs) : Fit a := ⟨Nat.lt_of_le_of_lt hle h.lt⟩

set_option maxRecDepth 100000 in
set_option maxHeartbeats 16000000 in
theorem num_Gcd (z y : Zv) (n m : Int) (w : World) (hz : ZR w z n) (hy : ZR w y m) (hF : Fit n) (hG : Fit m) :
    Calls Try.prog 72 #[.agg #[.int .i64 z.x, .slice z.A z.l z.c, .bool z.g], .agg #[.int .i64 y.x, .slice y.A y.l y.c, .bool y.g]] w (PZ w (Int.gcd n m : Int)) := by
  have hu := Try.underlying45
  have hO0 := Lib.hid (Own.three w 45 45 45 #[.int .i64 z.x, .slice z.A z.l z.c, .bool z.g] #[.int .i64 y.x, .slice y.A y.l y.c, .bool y.g] #[.int .i64 0, .slice none 0 0, .bool false])
  go_enter Try.func72, Try.ntmps72
  go_upto_region 1 with (fail)
  go_cut [5] (fun v5 wr => ∃ (a b : Nat) (za zb : Zv), Hid (Own w [(45, #[.int .i64 za.x, .slice za.A za.l za.c, .bool za.g]), (45, #[.int .i64 zb.x, .slice zb.A zb.l zb.c, .bool zb.g]), (45, #[.int .i64 0, .slice none 0 0, .bool false])] wr) ∧ ZR wr za a ∧ ZR wr zb b ∧ Hid (Nat.gcd a b = Int.gcd n m) ∧ Fit a ∧ Fit b)
  case first =>
    go_region_with (first
      | (go_at_call_of 80 (Value.agg #[.int .i64 z.x, .slice z.A z.l z.c, .bool z.g]); refine (num_Abs z n _ (hO0.out.drew.zr hz) hF).mono ?_; rintro e w1 ⟨z1, rfl, hz1, hb1⟩; have hO1 := Lib.hid (hO0.out.drew.call hb1); clear hb1; obtain ⟨k3, k4, k5, -, -, -⟩ := blk3 hO1.out.b1)
      | (go_at_call_of 80 (Value.agg #[.int .i64 y.x, .slice y.A y.l y.c, .bool y.g]); refine (num_Abs y m _ (hO1.out.zr hy) hG).mono ?_; rintro e w2 ⟨z2, rfl, hz2, hb2⟩; have hO2 := Lib.hid (hO1.out.call hb2); have hz1' := hz1.below hb2 (Nat.le_refl _); clear hb2; obtain ⟨c0, c1, c2, f0, f1, f2⟩ := blk3 hO2.out.b0; obtain ⟨c3, c4, c5, f3, f4, f5⟩ := blk3 hO2.out.b1))
    all_goals
      go_wp2_with fail
      go_meet
      obtain ⟨q1, q2, q3⟩ := twoput hO2.out hz1' hz2 rfl
      exact ⟨n.natAbs, m.natAbs, z1, z2, q1, q2, q3, rfl, hF.le (by simp), hG.le (by simp)⟩
  case rest =>
    obtain ⟨a0, b0, za0, zb0, hO, hza, hzb, hg, hFa, hFb⟩ := hcut
    clear hO0
    go_wp2_with fail
    go_loopg [5] (b0 + 1) (fun gk v5 wr => ∃ (a b : Nat) (za zb : Zv), gk = b + 1 ∧ Hid (Own w [(45, #[.int .i64 za.x, .slice za.A za.l za.c, .bool za.g]), (45, #[.int .i64 zb.x, .slice zb.A zb.l zb.c, .bool zb.g]), (45, #[.int .i64 0, .slice none 0 0, .bool false])] wr) ∧ ZR wr za a ∧ ZR wr zb b ∧ Hid (Nat.gcd a b = Int.gcd n m) ∧ Fit a ∧ Fit b)
    case atStart => exact ⟨a0, b0, za0, zb0, rfl, hO, hza, hzb, hg, hFa, hFb⟩
    case round =>
      clear hO hza hzb hg hFa hFb
      obtain ⟨a, b, za, zb, hgk, hO, hza, hzb, hg, hFa, hFb⟩ := hrel
      have hgk := Lib.hid hgk
      obtain ⟨c3, c4, c5, -, -, -⟩ := blk3 hO.out.b1
      go_wp2_with fail
      refine (num_Sign zb b _ hzb).mono ?_
      rintro e w1 ⟨he, hb1⟩
      have hO1 := Lib.hid (hO.out.call hb1)
      have hza1 := hza.below hb1 (Nat.le_refl _)
      have hzb1 := hzb.below hb1 (Nat.le_refl _)
      clear hb1 c3 c4 c5
      rcases Nat.eq_zero_or_pos b with rfl | hb0
      · have he' : e = .returned (.int .i64 0) := he
        subst he'
        clear he
        obtain ⟨c0, c1, c2, -, -, -⟩ := blk3 hO1.out.b0
        obtain ⟨hc0, hc1, hc2, hf0, hf1, hf2⟩ := blk3 hO1.out.b2
        have hg' : Hid ((a : Int) = Int.gcd n m) := by have := hg.out; simp at this; show _ = _; rw [this]
        go_wp2_with fail
        rw [hg'.out] at hza1
        refine bodyPost_ret (v := .agg #[.int .i64 za.x, .slice za.A za.l za.c, .bool za.g]) (by simp [results, Try.results72, go_sem, hc0, hc1, hc2, hf0, hf1, hf2]) rfl ⟨za, rfl, hza1.set (NoW.z (hO1.out).b2) (SetB.set3 _ _ _ _ _ _ _ _), (hO1.out).set3 2 _ _ _ _ _ _⟩
      · have he' : e = .returned (.int .i64 1) := by rw [he, Int.sign_eq_one_of_pos (by omega)]
        subst he'
        clear he
        have hg2 := gcd_step hg hb0
        rcases hA : za.A.isNone with _ | _
        · obtain ⟨c0, c1, c2, f0, f1, f2⟩ := blk3 hO1.out.b0
          obtain ⟨c3, c4, c5, f3, f4, f5⟩ := blk3 hO1.out.b1
          go_wp2_with fail
          refine (num_Quo za zb a b _ hza1 hzb1 hFa hFb (by show (b : Int) ≠ 0; omega)).mono ?_
          rintro e w3 ⟨zq, zr, rfl, -, hzr, hb3⟩
          have hO3 := Lib.hid (hO1.out.call hb3)
          have hzb3 := hzb1.below hb3 (Nat.le_refl _)
          have hr : Hid ((a : Int).tmod b = ((a % b : Nat) : Int)) := rfl
          try clear hB
          clear hA
          clear hb3 c0 c1 c2 c3 c4 c5 f0 f1 f2 f3 f4 f5
          rw [hr.out] at hzr
          go_wp2_with fail
          obtain ⟨w4, hw4⟩ : ∃ w4 : World, w4 = (w3.alloc (.cells #[.int .i64 zq.x, .slice zq.A zq.l zq.c, .bool zq.g] 45)).alloc (.cells #[.int .i64 zr.x, .slice zr.A zr.l zr.c, .bool zr.g] 45) := ⟨_, rfl⟩
          have hbw : Below w3.heap.size w3 w4 := by rw [hw4]; exact ((Below.refl _ _).alloc (Nat.le_refl _) _).alloc (by simp) _
          have hO4 := Lib.hid (hO3.out.call hbw)
          have hzb4 := hzb3.below hbw (Nat.le_refl _)
          have hzr4 := hzr.below hbw (Nat.le_refl _)
          have hB8 : Blk w4 (w3.heap.size + 1) 45 #[.int .i64 zr.x, .slice zr.A zr.l zr.c, .bool zr.g] := by rw [hw4]; have := Blk.new (w3.alloc (.cells #[.int .i64 zq.x, .slice zq.A zq.l zq.c, .bool zq.g] 45)) 45 #[.int .i64 zr.x, .slice zr.A zr.l zr.c, .bool zr.g]; simpa using this
          rw [← hw4]
          clear hbw hw4
          obtain ⟨c0, c1, c2, f0, f1, f2⟩ := blk3 hO4.out.b0
          obtain ⟨c3, c4, c5, f3, f4, f5⟩ := blk3 hO4.out.b1
          obtain ⟨d0, d1, d2, -, -, -⟩ := blk3 hB8
          have hB8 := Lib.hid hB8
          have hs3 : w.heap.size + 3 ≤ w3.heap.size := hO3.out.2.1
          have ne1 : w3.heap.size + 1 ≠ w.heap.size := by omega
          have ne2 : w.heap.size ≠ w3.heap.size + 1 := by omega
          have ne3 : w3.heap.size + 1 ≠ w.heap.size + 1 := by omega
          have ne4 : w.heap.size + 1 ≠ w3.heap.size + 1 := by omega
          have ne5 : w3.heap.size ≠ w.heap.size := by omega
          have ne6 : w.heap.size ≠ w3.heap.size := by omega
          go_region
          all_goals
            go_wp2_with fail
            go_roundg (a % b + 1)
            case measure => have h1 := hgk.out; have := Nat.mod_lt a hb0; omega
            case rel =>
              obtain ⟨q1, q2, q3⟩ := twoput hO4.out hzb4 hzr4 rfl
              exact ⟨b, a % b, zb, zr, rfl, Own.drew q1, ZR.drew q2, ZR.drew q3, hg2, hFb, hFb.le (by have := Nat.mod_lt a hb0; simp; omega)⟩
        · rcases hB : zb.A.isNone with _ | _
          · obtain ⟨c0, c1, c2, f0, f1, f2⟩ := blk3 hO1.out.b0
            obtain ⟨c3, c4, c5, f3, f4, f5⟩ := blk3 hO1.out.b1
            go_wp2_with fail
            refine (num_Quo za zb a b _ hza1 hzb1 hFa hFb (by show (b : Int) ≠ 0; omega)).mono ?_
            rintro e w3 ⟨zq, zr, rfl, -, hzr, hb3⟩
            have hO3 := Lib.hid (hO1.out.call hb3)
            have hzb3 := hzb1.below hb3 (Nat.le_refl _)
            have hr : Hid ((a : Int).tmod b = ((a % b : Nat) : Int)) := rfl
            try clear hB
            clear hA
            clear hb3 c0 c1 c2 c3 c4 c5 f0 f1 f2 f3 f4 f5
            rw [hr.out] at hzr
            go_wp2_with fail
            obtain ⟨w4, hw4⟩ : ∃ w4 : World, w4 = (w3.alloc (.cells #[.int .i64 zq.x, .slice zq.A zq.l zq.c, .bool zq.g] 45)).alloc (.cells #[.int .i64 zr.x, .slice zr.A zr.l zr.c, .bool zr.g] 45) := ⟨_, rfl⟩
            have hbw : Below w3.heap.size w3 w4 := by rw [hw4]; exact ((Below.refl _ _).alloc (Nat.le_refl _) _).alloc (by simp) _
            have hO4 := Lib.hid (hO3.out.call hbw)
            have hzb4 := hzb3.below hbw (Nat.le_refl _)
            have hzr4 := hzr.below hbw (Nat.le_refl _)
            have hB8 : Blk w4 (w3.heap.size + 1) 45 #[.int .i64 zr.x, .slice zr.A zr.l zr.c, .bool zr.g] := by rw [hw4]; have := Blk.new (w3.alloc (.cells #[.int .i64 zq.x, .slice zq.A zq.l zq.c, .bool zq.g] 45)) 45 #[.int .i64 zr.x, .slice zr.A zr.l zr.c, .bool zr.g]; simpa using this
            rw [← hw4]
            clear hbw hw4
            obtain ⟨c0, c1, c2, f0, f1, f2⟩ := blk3 hO4.out.b0
            obtain ⟨c3, c4, c5, f3, f4, f5⟩ := blk3 hO4.out.b1
            obtain ⟨d0, d1, d2, -, -, -⟩ := blk3 hB8
            have hB8 := Lib.hid hB8
            have hs3 : w.heap.size + 3 ≤ w3.heap.size := hO3.out.2.1
            have ne1 : w3.heap.size + 1 ≠ w.heap.size := by omega
            have ne2 : w.heap.size ≠ w3.heap.size + 1 := by omega
            have ne3 : w3.heap.size + 1 ≠ w.heap.size + 1 := by omega
            have ne4 : w.heap.size + 1 ≠ w3.heap.size + 1 := by omega
            have ne5 : w3.heap.size ≠ w.heap.size := by omega
            have ne6 : w.heap.size ≠ w3.heap.size := by omega
            go_region
            all_goals
              go_wp2_with fail
              go_roundg (a % b + 1)
              case measure => have h1 := hgk.out; have := Nat.mod_lt a hb0; omega
              case rel =>
                obtain ⟨q1, q2, q3⟩ := twoput hO4.out hzb4 hzr4 rfl
                exact ⟨b, a % b, zb, zr, rfl, Own.drew q1, ZR.drew q2, ZR.drew q3, hg2, hFb, hFb.le (by have := Nat.mod_lt a hb0; simp; omega)⟩
          · obtain ⟨rfl, i1⟩ := isNone_small hza1 hA
            obtain ⟨rfl, i2⟩ := isNone_small hzb1 hB
            obtain ⟨c0, c1, c2, f0, f1, f2⟩ := blk3 hO1.out.b0
            obtain ⟨c3, c4, c5, f3, f4, f5⟩ := blk3 hO1.out.b1
            have i1 := Lib.hid i1
            have i2 := Lib.hid i2
            have hb0' := Lib.hid hb0
            clear hA hB hza hzb hza1 hzb1 hb0
            go_wp2_with fail
            go_quiet (fail)
            go_wp2_with fail
            have hOq := Lib.hid (hO1.out.drewN nq)
            clear c0 c1 c2 c3 c4 c5 f0 f1 f2 f3 f4 f5 hO1
            go_loopw [5, 6] (fun v5 v6 wq => ∃ p q : Nat, v5 = .int .i64 p ∧ v6 = .int .i64 q ∧ Hid (Nat.gcd p q = Int.gcd n m) ∧ Hid (In64 p) ∧ Hid (In64 q) ∧ Hid (Own w [(45, #[.int .i64 a, .slice none 0 0, .bool false]), (45, #[.int .i64 b, .slice none 0 0, .bool false]), (45, #[.int .i64 0, .slice none 0 0, .bool false])] wq)) (fun _ v _ => (intOf v).toNat)
            case atStart => exact ⟨a, b, rfl, rfl, hg, i1, i2, hOq⟩
            case round =>
              clear hOq hgk
              obtain ⟨p, q, rfl, rfl, hgq, ip, iq, hOq⟩ := hrel
              rcases Nat.eq_zero_or_pos q with rfl | hq0
              · have hgp : Hid ((p : Int) = Int.gcd n m) := by have := hgq.out; simp at this; show _ = _; rw [this]
                obtain ⟨hc0, hc1, hc2, hf0, hf1, hf2⟩ := blk3 hOq.out.b2
                go_wp2_with fail
                have hOq' := hOq.out.set3 2 0 1 2 (.int .i64 p) (.slice none 0 0) (.bool false)
                refine bodyPost_ret (v := .agg #[.int .i64 p, .slice none 0 0, .bool false]) (by simp [results, Try.results72, go_sem, hc0, hc1, hc2, hf0, hf1, hf2]) rfl ⟨⟨p, none, 0, 0, false⟩, rfl, ZR.small hgp.out.symm ip.out, hOq'⟩
              · have h1 : ((q : Int) == 0) = false := by simp; omega
                have h2 : ((q : Int) != 0) = true := by simp; omega
                have hw : Hid (In64 ((p % q : Nat) : Int)) := by have h3 := ip.out; have h4 := Nat.mod_le p q; show In64 _; unfold In64 at *; omega
                go_wp2_with fail
                go_quiet (fail)
                go_wp2_with fail
                go_roundw
                case rel => exact ⟨q, p % q, rfl, (by first | rfl | (exact congrArg _ (by omega))), gcd_step hgq hq0, iq, hw, Lib.hid (hOq.out.drewN _)⟩
                case measure => have := Nat.mod_lt p hq0; simp [intOf]; omega

end Go.Proofs.Ytgoojlnfobjplaa
