/- Fractions of the reference: the denominator, whether it is 0, the opposite, the fraction of a number. -/
import Derived.Test.YtgoojlnfobjplaaRm
import Derived.Test.YtgoojlnfobjplaaZn1
import Derived.Test.YtgoojlnfobjplaaZv3
import Derived.Test.YtgoojlnfobjplaaZn3
namespace Go.Proofs.Ytgoojlnfobjplaa
open Go.RowKit
set_option linter.unusedSimpArgs false
set_option linter.unusedVariables false
attribute [local go_sem] qn30 qe30

theorem keep4 {w w1 : World} {p : Qw} {t : TypeId} {r} (h : Own w ((t, #[.slice p.n.A p.n.l p.n.c, .bool p.n.g, .slice p.d.A p.d.l p.d.c, .bool p.d.g]) :: r) w1) : w1.cell? ⟨w.heap.size, 0, none⟩ = some (.slice p.n.A p.n.l p.n.c) ∧ w1.cell? ⟨w.heap.size, 1, none⟩ = some (.bool p.n.g) ∧ w1.cell? ⟨w.heap.size, 2, none⟩ = some (.slice p.d.A p.d.l p.d.c) ∧ w1.cell? ⟨w.heap.size, 3, none⟩ = some (.bool p.d.g) :=
  ⟨h.b0.cell 0, h.b0.cell 1, h.b0.cell 2, h.b0.cell 3⟩
theorem keep4s {w w1 w2 : World} {p : Qw} {t : TypeId} {r} (h : Own w ((t, #[.slice p.n.A p.n.l p.n.c, .bool p.n.g, .slice p.d.A p.d.l p.d.c, .bool p.d.g]) :: r) w1) (hs : SetB (w.heap.size + 1) w1 w2) : w2.cell? ⟨w.heap.size, 0, none⟩ = some (.slice p.n.A p.n.l p.n.c) ∧ w2.cell? ⟨w.heap.size, 1, none⟩ = some (.bool p.n.g) ∧ w2.cell? ⟨w.heap.size, 2, none⟩ = some (.slice p.d.A p.d.l p.d.c) ∧ w2.cell? ⟨w.heap.size, 3, none⟩ = some (.bool p.d.g) := by
  have k : ∀ p : Addr, p.block < w.heap.size + 1 → w2.cell? p = w1.cell? p := fun p hp => hs.2 p (by omega)
  obtain ⟨h1, h2, h3, h4⟩ := keep4 h
  exact ⟨(k ⟨w.heap.size, 0, none⟩ (by show w.heap.size < _; omega)).trans h1, (k ⟨w.heap.size, 1, none⟩ (by show w.heap.size < _; omega)).trans h2, (k ⟨w.heap.size, 2, none⟩ (by show w.heap.size < _; omega)).trans h3, (k ⟨w.heap.size, 3, none⟩ (by show w.heap.size < _; omega)).trans h4⟩
theorem keep44 {w w1 : World} {p q : Qw} {t : TypeId} {r} (h : Own w ((t, #[.slice p.n.A p.n.l p.n.c, .bool p.n.g, .slice p.d.A p.d.l p.d.c, .bool p.d.g]) :: (t, #[.slice q.n.A q.n.l q.n.c, .bool q.n.g, .slice q.d.A q.d.l q.d.c, .bool q.d.g]) :: r) w1) : (w1.cell? ⟨w.heap.size, 0, none⟩ = some (.slice p.n.A p.n.l p.n.c) ∧ w1.cell? ⟨w.heap.size, 1, none⟩ = some (.bool p.n.g) ∧ w1.cell? ⟨w.heap.size, 2, none⟩ = some (.slice p.d.A p.d.l p.d.c) ∧ w1.cell? ⟨w.heap.size, 3, none⟩ = some (.bool p.d.g)) ∧ (w1.cell? ⟨w.heap.size + 1, 0, none⟩ = some (.slice q.n.A q.n.l q.n.c) ∧ w1.cell? ⟨w.heap.size + 1, 1, none⟩ = some (.bool q.n.g) ∧ w1.cell? ⟨w.heap.size + 1, 2, none⟩ = some (.slice q.d.A q.d.l q.d.c) ∧ w1.cell? ⟨w.heap.size + 1, 3, none⟩ = some (.bool q.d.g)) :=
  ⟨keep4 h, h.b1.cell 0, h.b1.cell 1, h.b1.cell 2, h.b1.cell 3⟩
theorem keep44s {w w1 w2 : World} {p q : Qw} {t : TypeId} {r} (h : Own w ((t, #[.slice p.n.A p.n.l p.n.c, .bool p.n.g, .slice p.d.A p.d.l p.d.c, .bool p.d.g]) :: (t, #[.slice q.n.A q.n.l q.n.c, .bool q.n.g, .slice q.d.A q.d.l q.d.c, .bool q.d.g]) :: r) w1) (hs : SetB (w.heap.size + 1 + 1) w1 w2) : (w2.cell? ⟨w.heap.size, 0, none⟩ = some (.slice p.n.A p.n.l p.n.c) ∧ w2.cell? ⟨w.heap.size, 1, none⟩ = some (.bool p.n.g) ∧ w2.cell? ⟨w.heap.size, 2, none⟩ = some (.slice p.d.A p.d.l p.d.c) ∧ w2.cell? ⟨w.heap.size, 3, none⟩ = some (.bool p.d.g)) ∧ (w2.cell? ⟨w.heap.size + 1, 0, none⟩ = some (.slice q.n.A q.n.l q.n.c) ∧ w2.cell? ⟨w.heap.size + 1, 1, none⟩ = some (.bool q.n.g) ∧ w2.cell? ⟨w.heap.size + 1, 2, none⟩ = some (.slice q.d.A q.d.l q.d.c) ∧ w2.cell? ⟨w.heap.size + 1, 3, none⟩ = some (.bool q.d.g)) := by
  have k : ∀ p : Addr, p.block < w.heap.size + 1 + 1 → w2.cell? p = w1.cell? p := fun p hp => hs.2 p (by omega)
  obtain ⟨⟨h1, h2, h3, h4⟩, h5, h6, h7, h8⟩ := keep44 h
  exact ⟨⟨(k ⟨w.heap.size, 0, none⟩ (by show w.heap.size < _; omega)).trans h1, (k ⟨w.heap.size, 1, none⟩ (by show w.heap.size < _; omega)).trans h2, (k ⟨w.heap.size, 2, none⟩ (by show w.heap.size < _; omega)).trans h3, (k ⟨w.heap.size, 3, none⟩ (by show w.heap.size < _; omega)).trans h4⟩,
    (k ⟨w.heap.size + 1, 0, none⟩ (by show w.heap.size + 1 < _; omega)).trans h5, (k ⟨w.heap.size + 1, 1, none⟩ (by show w.heap.size + 1 < _; omega)).trans h6, (k ⟨w.heap.size + 1, 2, none⟩ (by show w.heap.size + 1 < _; omega)).trans h7, (k ⟨w.heap.size + 1, 3, none⟩ (by show w.heap.size + 1 < _; omega)).trans h8⟩

set_option maxRecDepth 100000 in
set_option maxHeartbeats 1000000 in
theorem r_den (p : Qw) (r : Rat) (w : World) (hp : QW w p r) :
    Calls Try.prog 34 #[.agg #[.slice p.n.A p.n.l p.n.c, .bool p.n.g, .slice p.d.A p.d.l p.d.c, .bool p.d.g]] w (PI w r.den) := by
  have hu := Try.underlying32
  have hu2 := Try.underlying34
  obtain ⟨-, dd, hd, hdd⟩ := hp
  have hO0 := Lib.hid (Own.two w 34 32 #[.slice p.n.A p.n.l p.n.c, .bool p.n.g, .slice p.d.A p.d.l p.d.c, .bool p.d.g] #[.slice none 0 0, .bool false])
  obtain ⟨c0, c1, c2, c3⟩ := keep4 hO0.out
  have hdd := Lib.hid hdd
  obtain ⟨b, hb'⟩ : ∃ b, b = decide (dd = 0) := ⟨_, rfl⟩
  have hn0 := r_isNought p.d dd _ (hO0.out.wr hd)
  rw [← hb'] at hn0
  have hbh := Lib.hid hb'
  clear hb'
  go_enter Try.func34, Try.ntmps34
  go_wp2_with fail
  refine hn0.mono ?_
  clear hn0
  rintro e w1 ⟨rfl, hb1⟩
  have hO1 := Lib.hid (hO0.out.call hb1)
  clear hO0 hb1 c0 c1 c2 c3
  cases b with
  | true =>
    have hr1 : Hid ((r.den : Int) = 1) := by
      have h1 := hbh.out
      show _ = _
      rcases hdd.out with h | ⟨-, h⟩
      · have := r.den_nz
        simp at h1
        omega
      · rw [h]; rfl
    go_wp2_with fail
    refine (r_one _).mono ?_
    rintro e w2 ⟨z2, rfl, hz2, hb2⟩
    have hO2 := Lib.hid (hO1.out.call hb2)
    obtain ⟨d0, d1, f0, f1⟩ := blkW2 hO2.out.b1
    rw [← hr1.out] at hz2
    clear hb2
    go_wp2_with fail
    refine bodyPost_ret (v := .agg #[.slice z2.A z2.l z2.c, .bool z2.g]) (by simp [results, Try.results34, go_sem, d0, d1, f0, f1]) rfl ⟨z2, rfl, hz2.set (NoW.w hO2.out.b1) (SetB.set2 _ _ _ _ _ _), hO2.out.setW2 1 _ _ _ _⟩
  | false =>
    obtain ⟨c0, c1, c2, c3⟩ := keep4 hO1.out
    obtain ⟨d0, d1, f0, f1⟩ := blkW2 hO1.out.b1
    have hz2 : WR w1 p.d r.den := by
      have h1 := hbh.out
      rcases hdd.out with h | ⟨h, -⟩
      · rw [← h]; exact hO1.out.wr hd
      · rw [h] at h1; simp at h1
    go_wp2_with fail
    refine bodyPost_ret (v := .agg #[.slice p.d.A p.d.l p.d.c, .bool p.d.g]) (by simp [results, Try.results34, go_sem, d0, d1, f0, f1]) rfl ⟨p.d, rfl, hz2.set (NoW.w hO1.out.b1) (SetB.set2 _ _ _ _ _ _), hO1.out.setW2 1 _ _ _ _⟩

set_option maxRecDepth 100000 in
theorem r_IsZero (p : Qw) (r : Rat) (w : World) (hp : QW w p r) :
    Calls Try.prog 27 #[.agg #[.slice p.n.A p.n.l p.n.c, .bool p.n.g, .slice p.d.A p.d.l p.d.c, .bool p.d.g]] w fun e w' => e = .returned (.bool (decide (r = 0))) ∧ Below w.heap.size w w' := by
  have hu := Try.underlying32
  have hu2 := Try.underlying34
  have hO0 := Lib.hid (Own.one w 34 #[.slice p.n.A p.n.l p.n.c, .bool p.n.g, .slice p.d.A p.d.l p.d.c, .bool p.d.g])
  obtain ⟨c0, c1, c2, c3⟩ := keep4 hO0.out
  have hn0 := r_isNought p.n r.num _ (hO0.out.wr hp.1)
  rw [show decide (r.num = 0) = decide (r = 0) from decide_eq_decide.2 Rat.num_eq_zero] at hn0
  obtain ⟨b, hb'⟩ : ∃ b, b = decide (r = 0) := ⟨_, rfl⟩
  rw [← hb'] at hn0 ⊢
  clear hb'
  go_enter Try.func27, Try.ntmps27
  go_wp2_with fail
  refine hn0.mono ?_
  clear hn0
  rintro e w1 ⟨rfl, hb1⟩
  have hO1 := Lib.hid (hO0.out.call hb1)
  go_wp2_with fail
  go_ret
  exact ⟨rfl, hO1.out.1⟩

set_option maxRecDepth 100000 in
set_option maxHeartbeats 4000000 in
theorem r_QNeg (p : Qw) (r : Rat) (w : World) (hp : QW w p r) (hF : Fit r.num) :
    Calls Try.prog 53 #[.agg #[.slice p.n.A p.n.l p.n.c, .bool p.n.g, .slice p.d.A p.d.l p.d.c, .bool p.d.g]] w (PF w (-r)) := by
  have hu := Try.underlying32
  have hu2 := Try.underlying34
  have hO0 := Lib.hid (Own.two w 34 34 #[.slice p.n.A p.n.l p.n.c, .bool p.n.g, .slice p.d.A p.d.l p.d.c, .bool p.d.g] #[.slice none 0 0, .bool false, .slice none 0 0, .bool false])
  go_enter Try.func53, Try.ntmps53
  go_wp2_with fail
  go_region_held3 (fun w' => w'.cell? ⟨w.heap.size, 0, none⟩ = some (.slice p.n.A p.n.l p.n.c) ∧ w'.cell? ⟨w.heap.size, 1, none⟩ = some (.bool p.n.g) ∧ w'.cell? ⟨w.heap.size, 2, none⟩ = some (.slice p.d.A p.d.l p.d.c) ∧ w'.cell? ⟨w.heap.size, 3, none⟩ = some (.bool p.d.g))
    (first | (with_reducible exact keep4s hO2.out (SetB.set4 _ _ _ _ _ _ _ _ _ _)) | (with_reducible exact keep4 hO2.out) | (with_reducible exact keep4 hO1.out) | (with_reducible exact keep4 hO0.out.drew) | go_keep)
    (first
      | (go_at_call 57; refine (r_neg p.n r.num _ (hO0.out.drew.wr hp.1) hF).mono ?_; rintro e w1 ⟨z1, rfl, hz1, hb1⟩; have hO1 := Lib.hid (hO0.out.drew.call hb1); clear hb1)
      | (go_at_call 34; refine (r_den p r _ (hO1.out.qw hp)).mono ?_; rintro e w2 ⟨z2, rfl, hz2, hb2⟩; have hO2 := Lib.hid (hO1.out.call hb2); have hz12 := hz1.below hb2 (Nat.le_refl _); obtain ⟨⟨d0, d1, d2, d3⟩, f0, f1, f2, f3⟩ := blkW4 hO2.out.b1; clear hb2 hz1))
  go_wp2_with fail
  have hres : QW w2 ⟨z1, z2⟩ (-r) := ⟨by rw [(neg_rat r).1]; exact hz12, _, hz2, .inl (by rw [(neg_rat r).2])⟩
  refine bodyPost_ret (v := .agg #[.slice z1.A z1.l z1.c, .bool z1.g, .slice z2.A z2.l z2.c, .bool z2.g]) (by simp [results, Try.results53, go_sem, d0, d1, d2, d3, f0, f1, f2, f3]) rfl ⟨⟨z1, z2⟩, rfl, hres.set (NoW.w4 hO2.out.b1) (SetB.set4 _ _ _ _ _ _ _ _ _ _), hO2.out.setW4 1 _ _ _ _ _ _ _ _⟩

end Go.Proofs.Ytgoojlnfobjplaa

/- Fractions of the reference: of a number, as a number, comparison, quotient. -/
namespace Go.Proofs.Ytgoojlnfobjplaa
open Go.RowKit
set_option linter.unusedSimpArgs false
set_option linter.unusedVariables false
attribute [local go_sem] qn30 qe30

theorem WR.belowH {w w' : World} {z n} (h : WR w z n) (hb : Below w.heap.size w w') : WR w' z n := h.below hb (Nat.le_refl _)

set_option maxRecDepth 100000 in
set_option maxHeartbeats 4000000 in
theorem r_Of (x : Int × Int) (w : World) (h : Hid (VR x.1 x.2)) :
    Calls Try.prog 10 #[.agg #[.int .i64 x.1, .int .i64 x.2]] w (PF w (ratOf x)) := by
  have hu := Try.underlying34
  have hu2 := Try.underlying24
  have hO0 := Lib.hid (Own.two w 24 34 #[.int .i64 x.1, .int .i64 x.2] #[.slice none 0 0, .bool false, .slice none 0 0, .bool false])
  have hS := keep2 hO0.out.drew
  have i1 := Lib.hid (In64_small h.out.2.2.1 h.out.2.2.2.1).1
  have i2 := Lib.hid (In64_small (show -1000000000000 ≤ x.2 by have := h.out.1; omega) h.out.2.1).1
  have k1 := Lib.hid (fit_of (n := x.1) (k := 40) (by have := h.out; unfold VR at this; omega) (by omega))
  have k2 := Lib.hid (fit_of (n := x.2) (k := 40) (by have := h.out; unfold VR at this; omega) (by omega))
  have hpos : Hid (0 < x.2) := by have := h.out; unfold VR at this; show 0 < _; omega
  go_enter Try.func10, Try.ntmps10
  go_wp2_with fail
  go_region_held3 (fun w' => w'.cell? ⟨w.heap.size, 0, none⟩ = some (.int .i64 x.1) ∧ w'.cell? ⟨w.heap.size, 1, none⟩ = some (.int .i64 x.2))
    (first | (with_reducible exact hS) | (with_reducible exact hT _ _ _ _))
    (first
      | (go_at_call_of 32 (Value.int IntKind.i64 x.1); refine (r_ofInt x.1 _ i1.out).mono ?_; rintro e w1 ⟨z1, rfl, hz1, hb⟩; have hO1 := Lib.hid (hO0.out.drew.call hb); clear hS; have hS := keep2 hO1.out; clear hb)
      | (go_at_call_of 32 (Value.int IntKind.i64 x.2); refine (r_ofInt x.2 _ i2.out).mono ?_; rintro e w2 ⟨z2, rfl, hz2, hb⟩; have hz1 := hz1.below hb (Nat.le_refl _); have hO2 := Lib.hid (hO1.out.call hb); clear hS; have hS := keep2 hO2.out; clear hb)
      | (go_at_call 31; refine (r_ratio z1 z2 x.1 x.2 _ hz1 hz2 k1.out k2.out hpos.out).mono ?_; rintro e w3 ⟨q, rfl, hq, hb⟩; have hO3 := Lib.hid (hO2.out.call hb); clear hS; have hS := keep2 hO3.out; clear hb; have hT := fun u1 u2 u3 u4 => keep2s hO3.out (SetB.set4 w3 (w.heap.size + 1) 0 1 2 3 u1 u2 u3 u4); obtain ⟨⟨e0, e1, e2, e3⟩, f0, f1, f2, f3⟩ := blkW4 hO3.out.b1))
  go_wp2_with fail
  refine bodyPost_ret (v := .agg #[.slice q.n.A q.n.l q.n.c, .bool q.n.g, .slice q.d.A q.d.l q.d.c, .bool q.d.g]) (by simp [results, Try.results10, go_sem, e0, e1, e2, e3, f0, f1, f2, f3]) rfl ⟨q, rfl, hq.set (NoW.w4 hO3.out.b1) (SetB.set4 _ _ _ _ _ _ _ _ _ _), hO3.out.setW4 1 _ _ _ _ _ _ _ _⟩

theorem big_no {n : Int} (h : ¬ In64 n) (d : Int) : ¬ (-1000000000000 ≤ n ∧ n ≤ 1000000000000 ∧ d ≤ 1000000000000) := by unfold In64 at h; omega
theorem big_no2 {d : Nat} (h : ¬ In64 (d : Int)) (n : Int) : ¬ (-1000000000000 ≤ n ∧ n ≤ 1000000000000 ∧ (d : Int) ≤ 1000000000000) := by unfold In64 at h; omega

set_option maxRecDepth 100000 in
set_option maxHeartbeats 4000000 in
theorem r_Rat (p : Qw) (r : Rat) (w : World) (hp : QW w p r) :
    Calls Try.prog 28 #[.agg #[.slice p.n.A p.n.l p.n.c, .bool p.n.g, .slice p.d.A p.d.l p.d.c, .bool p.d.g]] w (POut w r) := by
  have hu := Try.underlying34
  have hu2 := Try.underlying24
  have hu3 := Try.underlying32
  have hO0 := Lib.hid (Own.two w 34 24 #[.slice p.n.A p.n.l p.n.c, .bool p.n.g, .slice p.d.A p.d.l p.d.c, .bool p.d.g] #[.int .i64 0, .int .i64 0])
  obtain ⟨c0, c1, c2, c3⟩ := keep4 hO0.out
  go_enter Try.func28, Try.ntmps28
  go_wp2_with fail
  refine (r_small p.n r.num _ (hO0.out.wr hp.1)).mono ?_
  rintro e w1 ⟨hb, m, a, rfl, hcase⟩
  have hcase := Lib.hid hcase
  have hO1 := Lib.hid (hO0.out.call hb)
  clear hb c0 c1 c2 c3
  obtain ⟨c0, c1, c2, c3⟩ := keep4 hO1.out
  go_wp2_with fail
  refine (r_den p r _ (hO1.out.qw hp)).mono ?_
  rintro e w2 ⟨z2, rfl, hz2, hb⟩
  have hO2 := Lib.hid (hO1.out.call hb)
  clear hb c0 c1 c2 c3
  go_wp2_with fail
  refine (r_small z2 r.den _ hz2).mono ?_
  rintro e w3 ⟨hb, d, b, rfl, hcase2⟩
  have hcase2 := Lib.hid hcase2
  have hO3 := Lib.hid (hO2.out.call hb)
  clear hb
  obtain ⟨e0, e1, f0, f1⟩ := blk2 hO3.out.b1
  cases a with
  | false =>
    have hno : Hid (¬ (-1000000000000 ≤ r.num ∧ r.num ≤ 1000000000000 ∧ (r.den : Int) ≤ 1000000000000)) := by
      rcases hcase.out with ⟨h, -⟩ | ⟨-, h⟩
      · cases h
      · exact big_no h _
    go_wp2_with fail
    refine bodyPost_ret (v := .tuple #[.agg #[.int .i64 0, .int .i64 0], .bool false]) (by simp [results, Try.results28, go_sem, e0, e1, f0, f1]) rfl ⟨hO3.out.set2 1 _ _ _ _, .inr ⟨hno.out, rfl⟩⟩
  | true =>
    obtain rfl : m = r.num := by
      rcases hcase.out with ⟨-, h, -⟩ | ⟨h, -⟩
      · exact h
      · cases h
    clear hcase
    cases b with
    | false =>
      have hno : Hid (¬ (-1000000000000 ≤ r.num ∧ r.num ≤ 1000000000000 ∧ (r.den : Int) ≤ 1000000000000)) := by
        rcases hcase2.out with ⟨h, -⟩ | ⟨-, h⟩
        · cases h
        · exact big_no2 h _
      go_wp2_with fail
      refine bodyPost_ret (v := .tuple #[.agg #[.int .i64 0, .int .i64 0], .bool false]) (by simp [results, Try.results28, go_sem, e0, e1, f0, f1]) rfl ⟨hO3.out.set2 1 _ _ _ _, .inr ⟨hno.out, rfl⟩⟩
    | true =>
      obtain rfl : d = (r.den : Int) := by
        rcases hcase2.out with ⟨-, h, -⟩ | ⟨h, -⟩
        · exact h
        · cases h
      clear hcase2
      by_cases h1 : r.num < -1000000000000
      · have h1' : decide (r.num < -1000000000000) = true := by simpa using h1
        have hno : Hid (¬ (-1000000000000 ≤ r.num ∧ r.num ≤ 1000000000000 ∧ (r.den : Int) ≤ 1000000000000)) := fun h => by omega
        go_wp2_with fail
        refine bodyPost_ret (v := .tuple #[.agg #[.int .i64 0, .int .i64 0], .bool false]) (by simp [results, Try.results28, go_sem, e0, e1, f0, f1]) rfl ⟨hO3.out.set2 1 _ _ _ _, .inr ⟨hno.out, rfl⟩⟩
      · have h1' : decide (r.num < -1000000000000) = false := by simpa using h1
        by_cases h2 : 1000000000000 < r.num
        · have h2' : decide (1000000000000 < r.num) = true := by simpa using h2
          have hno : Hid (¬ (-1000000000000 ≤ r.num ∧ r.num ≤ 1000000000000 ∧ (r.den : Int) ≤ 1000000000000)) := fun h => by omega
          go_wp2_with fail
          refine bodyPost_ret (v := .tuple #[.agg #[.int .i64 0, .int .i64 0], .bool false]) (by simp [results, Try.results28, go_sem, e0, e1, f0, f1]) rfl ⟨hO3.out.set2 1 _ _ _ _, .inr ⟨hno.out, rfl⟩⟩
        · have h2' : decide (1000000000000 < r.num) = false := by simpa using h2
          by_cases h3 : (1000000000000 : Int) < (r.den : Int)
          · have h3' : decide ((1000000000000 : Int) < (r.den : Int)) = true := by simpa using h3
            have hno : Hid (¬ (-1000000000000 ≤ r.num ∧ r.num ≤ 1000000000000 ∧ (r.den : Int) ≤ 1000000000000)) := fun h => by omega
            go_wp2_with fail
            refine bodyPost_ret (v := .tuple #[.agg #[.int .i64 0, .int .i64 0], .bool false]) (by simp [results, Try.results28, go_sem, e0, e1, f0, f1]) rfl ⟨hO3.out.set2 1 _ _ _ _, .inr ⟨hno.out, rfl⟩⟩
          · have h3' : decide ((1000000000000 : Int) < (r.den : Int)) = false := by simpa using h3
            have hyes : Hid (-1000000000000 ≤ r.num ∧ r.num ≤ 1000000000000 ∧ (r.den : Int) ≤ 1000000000000) := by show _ ∧ _; omega
            go_wp2_with fail
            refine bodyPost_ret (v := .tuple #[.agg #[.int .i64 r.num, .int .i64 r.den], .bool true]) (by simp [results, Try.results28, go_sem, e0, e1, f0, f1]) rfl ⟨hO3.out.set2 1 _ _ _ _, .inl ⟨hyes.out.1, hyes.out.2.1, hyes.out.2.2, rfl⟩⟩

end Go.Proofs.Ytgoojlnfobjplaa

/- Fractions of the reference: comparison, quotient. -/
namespace Go.Proofs.Ytgoojlnfobjplaa
open Go.RowKit
set_option linter.unusedSimpArgs false
set_option linter.unusedVariables false
attribute [local go_sem] qn30 qe30

set_option maxRecDepth 100000 in
set_option maxHeartbeats 8000000 in
theorem r_QCmp (p q : Qw) (a b : Rat) (w : World) (j k : Nat) (hp : QW w p a) (hq : QW w q b) (ha : Sz j a) (hb0 : Sz k b) (hjk : j + k ≤ 9000000) :
    Calls Try.prog 11 #[.agg #[.slice p.n.A p.n.l p.n.c, .bool p.n.g, .slice p.d.A p.d.l p.d.c, .bool p.d.g], .agg #[.slice q.n.A q.n.l q.n.c, .bool q.n.g, .slice q.d.A q.d.l q.d.c, .bool q.d.g]] w fun e w' => e = .returned (.int .i64 (cmpI (a.num * b.den) (b.num * a.den))) ∧ Below w.heap.size w w' := by
  have hu := Try.underlying32
  have hu2 := Try.underlying34
  have hO0 := Lib.hid (Own.two w 34 34 #[.slice p.n.A p.n.l p.n.c, .bool p.n.g, .slice p.d.A p.d.l p.d.c, .bool p.d.g] #[.slice q.n.A q.n.l q.n.c, .bool q.n.g, .slice q.d.A q.d.l q.d.c, .bool q.d.g])
  have hS := keep44 hO0.out.drew
  have s1 := Lib.hid (ha.fn (by omega))
  have s2 := Lib.hid (ha.fd (by omega))
  have s3 := Lib.hid (hb0.fn (by omega))
  have s4 := Lib.hid (hb0.fd (by omega))
  have s5 := Lib.hid (fit_of (mul_size (a := a.num) (b := (b.den : Int)) ha.num (by simpa using hb0.den)) (by omega))
  have s6 := Lib.hid (fit_of (mul_size (a := b.num) (b := (a.den : Int)) hb0.num (by simpa using ha.den)) (by omega))
  have hm1 : Hid (1 = 1) := rfl
  have hm2 : Hid (1 = 1) := rfl
  have hm3 : Hid (1 = 1) := rfl
  have hm4 : Hid (1 = 1) := rfl
  go_enter Try.func11, Try.ntmps11
  go_wp2_with fail
  go_region_held3 (fun w' => (w'.cell? ⟨w.heap.size, 0, none⟩ = some (.slice p.n.A p.n.l p.n.c) ∧ w'.cell? ⟨w.heap.size, 1, none⟩ = some (.bool p.n.g) ∧ w'.cell? ⟨w.heap.size, 2, none⟩ = some (.slice p.d.A p.d.l p.d.c) ∧ w'.cell? ⟨w.heap.size, 3, none⟩ = some (.bool p.d.g)) ∧ (w'.cell? ⟨w.heap.size + 1, 0, none⟩ = some (.slice q.n.A q.n.l q.n.c) ∧ w'.cell? ⟨w.heap.size + 1, 1, none⟩ = some (.bool q.n.g) ∧ w'.cell? ⟨w.heap.size + 1, 2, none⟩ = some (.slice q.d.A q.d.l q.d.c) ∧ w'.cell? ⟨w.heap.size + 1, 3, none⟩ = some (.bool q.d.g)))
    (first | (with_reducible exact hS))
    (first
      | (have hz := hm1; go_at_call 34; clear hz hm1; refine (r_den q b _ (hO0.out.drew.qw hq)).mono ?_; rintro e w1 ⟨z1, rfl, hz1, hb⟩; have hO1 := Lib.hid (hO0.out.drew.call hb); clear hS; have hS := keep44 hO1.out; clear hb)
      | (have hz := hm2; go_at_call 33; clear hz hm2; refine (r_mul p.n z1 a.num b.den _ (hO1.out.qw hp).1 hz1 s1.out s4.out).mono ?_; rintro e w2 ⟨z2, rfl, hz2, hb⟩; have hO2 := Lib.hid (hO1.out.call hb); clear hS; have hS := keep44 hO2.out; clear hb)
      | (have hz := hm3; go_at_call 34; clear hz hm3; refine (r_den p a _ (hO2.out.qw hp)).mono ?_; rintro e w3 ⟨z3, rfl, hz3, hb⟩; have hz23 := hz2.belowH hb; have hO3 := Lib.hid (hO2.out.call hb); clear hS; have hS := keep44 hO3.out; clear hb)
      | (have hz := hm4; go_at_call 33; clear hz hm4; refine (r_mul q.n z3 b.num a.den _ (hO3.out.qw hq).1 hz3 s3.out s2.out).mono ?_; rintro e w4 ⟨z4, rfl, hz4, hb⟩; have hz24 := hz23.belowH hb; have hO4 := Lib.hid (hO3.out.call hb); clear hS; have hS := keep44 hO4.out; clear hb)
      | (go_at_call 35; refine (r_cmp z2 z4 _ _ _ hz24 hz4 (by have := hz24.len s5.out; omega) (by have := hz4.len s6.out; omega)).mono ?_; rintro e w5 ⟨rfl, hb⟩; have hO5 := Lib.hid (hO4.out.call hb); clear hS; have hS := keep44 hO5.out; clear hb))
  go_wp2_with fail
  go_ret
  exact ⟨rfl, hO5.out.1⟩

set_option maxRecDepth 100000 in
set_option maxHeartbeats 8000000 in
theorem r_QDiv (p q : Qw) (a b : Rat) (w : World) (j k : Nat) (hp : QW w p a) (hq : QW w q b) (ha : Sz j a) (hb0 : Sz k b) (hjk : j + k ≤ 9000000) (hne : Hid (0 < b.num)) :
    Calls Try.prog 29 #[.agg #[.slice p.n.A p.n.l p.n.c, .bool p.n.g, .slice p.d.A p.d.l p.d.c, .bool p.d.g], .agg #[.slice q.n.A q.n.l q.n.c, .bool q.n.g, .slice q.d.A q.d.l q.d.c, .bool q.d.g]] w (PF w (a / b)) := by
  have hu := Try.underlying32
  have hu2 := Try.underlying34
  have hO0 := Lib.hid (Own.three w 34 34 34 #[.slice p.n.A p.n.l p.n.c, .bool p.n.g, .slice p.d.A p.d.l p.d.c, .bool p.d.g] #[.slice q.n.A q.n.l q.n.c, .bool q.n.g, .slice q.d.A q.d.l q.d.c, .bool q.d.g] #[.slice none 0 0, .bool false, .slice none 0 0, .bool false])
  have hS := keep44 hO0.out.drew
  have s1 := Lib.hid (ha.fn (by omega))
  have s2 := Lib.hid (ha.fd (by omega))
  have s3 := Lib.hid (hb0.fn (by omega))
  have s4 := Lib.hid (hb0.fd (by omega))
  have s5 := Lib.hid (fit_of (mul_size (a := a.num) (b := (b.den : Int)) ha.num (by simpa using hb0.den)) (by omega))
  have s6 := Lib.hid (fit_of (mul_size (a := (a.den : Int)) (b := b.num) (by simpa using ha.den) hb0.num) (by omega))
  have hpos : Hid (0 < (a.den : Int) * b.num) := Int.mul_pos (by have := a.den_pos; omega) hne.out
  have hm1 : Hid (1 = 1) := rfl
  have hm2 : Hid (1 = 1) := rfl
  have hm3 : Hid (1 = 1) := rfl
  have hm4 : Hid (1 = 1) := rfl
  have hdv := Lib.hid (div_rat a b)
  go_enter Try.func29, Try.ntmps29
  go_wp2_with fail
  go_region_held3 (fun w' => (w'.cell? ⟨w.heap.size, 0, none⟩ = some (.slice p.n.A p.n.l p.n.c) ∧ w'.cell? ⟨w.heap.size, 1, none⟩ = some (.bool p.n.g) ∧ w'.cell? ⟨w.heap.size, 2, none⟩ = some (.slice p.d.A p.d.l p.d.c) ∧ w'.cell? ⟨w.heap.size, 3, none⟩ = some (.bool p.d.g)) ∧ (w'.cell? ⟨w.heap.size + 1, 0, none⟩ = some (.slice q.n.A q.n.l q.n.c) ∧ w'.cell? ⟨w.heap.size + 1, 1, none⟩ = some (.bool q.n.g) ∧ w'.cell? ⟨w.heap.size + 1, 2, none⟩ = some (.slice q.d.A q.d.l q.d.c) ∧ w'.cell? ⟨w.heap.size + 1, 3, none⟩ = some (.bool q.d.g)))
    (first | (with_reducible exact hS) | (with_reducible exact hT _ _ _ _))
    (first
      | (have hz := hm1; go_at_call 34; clear hz hm1; refine (r_den q b _ (hO0.out.drew.qw hq)).mono ?_; rintro e w1 ⟨z1, rfl, hz1, hb⟩; have hO1 := Lib.hid (hO0.out.drew.call hb); clear hS; have hS := keep44 hO1.out; clear hb)
      | (have hz := hm2; go_at_call 33; clear hz hm2; refine (r_mul p.n z1 a.num b.den _ (hO1.out.qw hp).1 hz1 s1.out s4.out).mono ?_; rintro e w2 ⟨z2, rfl, hz2, hb⟩; have hO2 := Lib.hid (hO1.out.call hb); clear hS; have hS := keep44 hO2.out; clear hb)
      | (have hz := hm3; go_at_call 34; clear hz hm3; refine (r_den p a _ (hO2.out.qw hp)).mono ?_; rintro e w3 ⟨z3, rfl, hz3, hb⟩; have hz23 := hz2.belowH hb; have hO3 := Lib.hid (hO2.out.call hb); clear hS; have hS := keep44 hO3.out; clear hb)
      | (have hz := hm4; go_at_call 33; clear hz hm4; refine (r_mul z3 q.n a.den b.num _ hz3 (hO3.out.qw hq).1 s2.out s3.out).mono ?_; rintro e w4 ⟨z4, rfl, hz4, hb⟩; have hz24 := hz23.belowH hb; have hO4 := Lib.hid (hO3.out.call hb); clear hS; have hS := keep44 hO4.out; clear hb)
      | (go_at_call 31; refine (r_ratio z2 z4 _ _ _ hz24 hz4 s5.out s6.out hpos.out).mono ?_; rintro e w5 ⟨z5, rfl, hz5, hb⟩; have hO5 := Lib.hid (hO4.out.call hb); clear hS; have hS := keep44 hO5.out; clear hb; have hT := fun u1 u2 u3 u4 => keep44s hO5.out (SetB.set4 w5 (w.heap.size + 1 + 1) 0 1 2 3 u1 u2 u3 u4); obtain ⟨⟨e0, e1, e2, e3⟩, f0, f1, f2, f3⟩ := blkW4 hO5.out.b2))
  go_wp2_with fail
  rw [← hdv.out] at hz5
  refine bodyPost_ret (v := .agg #[.slice z5.n.A z5.n.l z5.n.c, .bool z5.n.g, .slice z5.d.A z5.d.l z5.d.c, .bool z5.d.g]) (by simp [results, Try.results29, go_sem, e0, e1, e2, e3, f0, f1, f2, f3]) rfl ⟨z5, rfl, hz5.set (NoW.w4 hO5.out.b2) (SetB.set4 _ _ _ _ _ _ _ _ _ _), hO5.out.setW4 2 _ _ _ _ _ _ _ _⟩

end Go.Proofs.Ytgoojlnfobjplaa
