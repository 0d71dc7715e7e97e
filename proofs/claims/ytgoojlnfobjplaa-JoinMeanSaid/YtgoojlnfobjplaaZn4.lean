import Derived.Test.YtgoojlnfobjplaaZn3
namespace Go.Proofs.Ytgoojlnfobjplaa
open Go.RowKit
set_option linter.unusedSimpArgs false
set_option linter.unusedVariables false
attribute [local go_sem] qn30 qe30

set_option maxRecDepth 100000 in
set_option maxHeartbeats 16000000 in
theorem num_QAdd (p q : Qv) (a b : Rat) (w : World) (j k : Nat) (hp : QR w p a) (hq : QR w q b) (ha : Sz j a) (hb0 : Sz k b) (hjk : j + k ≤ 9000000) :
    Calls Try.prog 19 #[.agg #[.int .i64 p.n.x, .slice p.n.A p.n.l p.n.c, .bool p.n.g, .int .i64 p.d.x, .slice p.d.A p.d.l p.d.c, .bool p.d.g], .agg #[.int .i64 q.n.x, .slice q.n.A q.n.l q.n.c, .bool q.n.g, .int .i64 q.d.x, .slice q.d.A q.d.l q.d.c, .bool q.d.g]] w (PQ w (a + b)) := by
  have hu := Try.underlying45
  have hu2 := Try.underlying47
  by_cases h1 : a.den = 1
  · have hd1 : decide (a.den = 1) = true := by simpa using h1
    have h1' := Lib.hid h1
    clear h1
    by_cases h2 : b.den = 1
    · have hd2 : decide (b.den = 1) = true := by simpa using h2
      have h2' := Lib.hid h2
      clear h2
      have hO0 := Lib.hid (Own.three w 47 47 47 #[.int .i64 p.n.x, .slice p.n.A p.n.l p.n.c, .bool p.n.g, .int .i64 p.d.x, .slice p.d.A p.d.l p.d.c, .bool p.d.g] #[.int .i64 q.n.x, .slice q.n.A q.n.l q.n.c, .bool q.n.g, .int .i64 q.d.x, .slice q.d.A q.d.l q.d.c, .bool q.d.g] #[.int .i64 0, .slice none 0 0, .bool false, .int .i64 0, .slice none 0 0, .bool false])
      go_enter Try.func19, Try.ntmps19
      go_wp2_with fail
      refine (num_IsInt p a _ (hO0.out.qr hp) (ha.fd (by omega))).mono ?_
      rintro e w0 ⟨rfl, hb⟩
      have hOa := Lib.hid (hO0.out.call hb)
      clear hb
      obtain ⟨g0, g1, g2, g3, g4, g5⟩ := (keep66 hOa.out).2
      go_wp2_with fail
      refine (num_IsInt q b _ (hOa.out.qr hq) (hb0.fd (by omega))).mono ?_
      rintro e w0' ⟨rfl, hb⟩
      have hOb := Lib.hid (hOa.out.call hb)
      clear hb g0 g1 g2 g3 g4 g5
      have hS := keep66 hOb.out.drew
      obtain ⟨⟨g0, g1, g2, g3, g4, g5⟩, g6, g7, g8, g9, g10, g11⟩ := keep66 hOb.out
      clear hO0 hOa
      go_wp2_with fail
      go_region_held3 (fun w' => (w'.cell? ⟨w.heap.size, 0, none⟩ = some (.int .i64 p.n.x) ∧ w'.cell? ⟨w.heap.size, 1, none⟩ = some (.slice p.n.A p.n.l p.n.c) ∧ w'.cell? ⟨w.heap.size, 2, none⟩ = some (.bool p.n.g) ∧ w'.cell? ⟨w.heap.size, 3, none⟩ = some (.int .i64 p.d.x) ∧ w'.cell? ⟨w.heap.size, 4, none⟩ = some (.slice p.d.A p.d.l p.d.c) ∧ w'.cell? ⟨w.heap.size, 5, none⟩ = some (.bool p.d.g)) ∧ (w'.cell? ⟨w.heap.size + 1, 0, none⟩ = some (.int .i64 q.n.x) ∧ w'.cell? ⟨w.heap.size + 1, 1, none⟩ = some (.slice q.n.A q.n.l q.n.c) ∧ w'.cell? ⟨w.heap.size + 1, 2, none⟩ = some (.bool q.n.g) ∧ w'.cell? ⟨w.heap.size + 1, 3, none⟩ = some (.int .i64 q.d.x) ∧ w'.cell? ⟨w.heap.size + 1, 4, none⟩ = some (.slice q.d.A q.d.l q.d.c) ∧ w'.cell? ⟨w.heap.size + 1, 5, none⟩ = some (.bool q.d.g)))
        (first | (with_reducible exact hS) | (with_reducible exact hT _ _ _ _ _ _))
        (first
          | (go_at_call 46; refine (num_Add p.n q.n a.num b.num _ (hOb.out.drew.qr hp).1 (hOb.out.drew.qr hq).1 (ha.fn (by omega)) (hb0.fn (by omega))).mono ?_; rintro e w1 ⟨z1, rfl, hz1, hb⟩; have hO1 := Lib.hid (hOb.out.drew.call hb); clear hS; have hS := keep66 hO1.out; clear hb; have hT := fun u1 u2 u3 u4 u5 u6 => keep66s hO1.out (SetB.set6 w1 (w.heap.size + 1 + 1) 0 1 2 3 4 5 u1 u2 u3 u4 u5 u6); obtain ⟨⟨e0, e1, e2, e3, e4, e5⟩, f0, f1, f2, f3, f4, f5⟩ := blk6 hO1.out.b2))
      go_wp2_with fail
      refine bodyPost_ret (v := .agg #[.int .i64 z1.x, .slice z1.A z1.l z1.c, .bool z1.g, .int .i64 p.d.x, .slice p.d.A p.d.l p.d.c, .bool p.d.g]) (by simp [results, Try.results19, go_sem, e0, e1, e2, e3, e4, e5, f0, f1, f2, f3, f4, f5]) rfl (q_end (q := ⟨z1, p.d⟩) hO1.out 2 rfl (by rw [(int_add a b h1'.out h2'.out).1]; exact hz1) (by have := (hO1.out.qr hp).2; rw [(int_add a b h1'.out h2'.out).2]; rwa [h1'.out] at this) _ _ _ _ _ _)
    · have hd2 : decide (b.den = 1) = false := by simpa using h2
      clear h2
      have hO0 := Lib.hid (Own.three w 47 47 47 #[.int .i64 p.n.x, .slice p.n.A p.n.l p.n.c, .bool p.n.g, .int .i64 p.d.x, .slice p.d.A p.d.l p.d.c, .bool p.d.g] #[.int .i64 q.n.x, .slice q.n.A q.n.l q.n.c, .bool q.n.g, .int .i64 q.d.x, .slice q.d.A q.d.l q.d.c, .bool q.d.g] #[.int .i64 0, .slice none 0 0, .bool false, .int .i64 0, .slice none 0 0, .bool false])
      go_enter Try.func19, Try.ntmps19
      go_wp2_with fail
      refine (num_IsInt p a _ (hO0.out.qr hp) (ha.fd (by omega))).mono ?_
      rintro e w0 ⟨rfl, hb⟩
      have hOa := Lib.hid (hO0.out.call hb)
      clear hb
      obtain ⟨g0, g1, g2, g3, g4, g5⟩ := (keep66 hOa.out).2
      go_wp2_with fail
      refine (num_IsInt q b _ (hOa.out.qr hq) (hb0.fd (by omega))).mono ?_
      rintro e w0' ⟨rfl, hb⟩
      have hOb := Lib.hid (hOa.out.call hb)
      clear hb g0 g1 g2 g3 g4 g5
      have hS := keep66 hOb.out.drew
      obtain ⟨⟨g0, g1, g2, g3, g4, g5⟩, g6, g7, g8, g9, g10, g11⟩ := keep66 hOb.out
      clear hO0 hOa
      go_wp2_with fail
      go_region_held3 (fun w' => (w'.cell? ⟨w.heap.size, 0, none⟩ = some (.int .i64 p.n.x) ∧ w'.cell? ⟨w.heap.size, 1, none⟩ = some (.slice p.n.A p.n.l p.n.c) ∧ w'.cell? ⟨w.heap.size, 2, none⟩ = some (.bool p.n.g) ∧ w'.cell? ⟨w.heap.size, 3, none⟩ = some (.int .i64 p.d.x) ∧ w'.cell? ⟨w.heap.size, 4, none⟩ = some (.slice p.d.A p.d.l p.d.c) ∧ w'.cell? ⟨w.heap.size, 5, none⟩ = some (.bool p.d.g)) ∧ (w'.cell? ⟨w.heap.size + 1, 0, none⟩ = some (.int .i64 q.n.x) ∧ w'.cell? ⟨w.heap.size + 1, 1, none⟩ = some (.slice q.n.A q.n.l q.n.c) ∧ w'.cell? ⟨w.heap.size + 1, 2, none⟩ = some (.bool q.n.g) ∧ w'.cell? ⟨w.heap.size + 1, 3, none⟩ = some (.int .i64 q.d.x) ∧ w'.cell? ⟨w.heap.size + 1, 4, none⟩ = some (.slice q.d.A q.d.l q.d.c) ∧ w'.cell? ⟨w.heap.size + 1, 5, none⟩ = some (.bool q.d.g)))
        (first | (with_reducible exact hS) | (with_reducible exact hT _ _ _ _ _ _))
        (first
          | (go_at_call_of 48 (Value.agg #[.int .i64 p.n.x, .slice p.n.A p.n.l p.n.c, .bool p.n.g]); refine (num_Mul p.n q.d a.num b.den _ (hOb.out.drew.qr hp).1 (hOb.out.drew.qr hq).2 (ha.fn (by omega)) (hb0.fd (by omega))).mono ?_; rintro e w1 ⟨z1, rfl, hz1, hb⟩; have hO1 := Lib.hid (hOb.out.drew.call hb); clear hS; have hS := keep66 hO1.out; clear hb)
          | (go_at_call_of 48 (Value.agg #[.int .i64 q.n.x, .slice q.n.A q.n.l q.n.c, .bool q.n.g]); refine (num_Mul q.n p.d b.num a.den _ (hO1.out.qr hq).1 (hO1.out.qr hp).2 (hb0.fn (by omega)) (ha.fd (by omega))).mono ?_; rintro e w2 ⟨z2, rfl, hz2, hb⟩; have hz1 := hz1.below hb (Nat.le_refl _); have hO2 := Lib.hid (hO1.out.call hb); clear hS; have hS := keep66 hO2.out; clear hb)
          | (go_at_call 46; refine (num_Add z1 z2 _ _ _ hz1 hz2 (fit_of (mul_size ha.num (show ((b.den : Int)).natAbs < 2 ^ k from hb0.den)) (by omega)) (fit_of (mul_size' hb0.num (show ((a.den : Int)).natAbs < 2 ^ j from ha.den)) (by omega))).mono ?_; rintro e w3 ⟨z3, rfl, hz3, hb⟩; have hO3 := Lib.hid (hO2.out.call hb); clear hS; have hS := keep66 hO3.out; clear hb)
          | (go_at_call_of 48 (Value.agg #[.int .i64 p.d.x, .slice p.d.A p.d.l p.d.c, .bool p.d.g]); refine (num_Mul p.d q.d a.den b.den _ (hO3.out.qr hp).2 (hO3.out.qr hq).2 (ha.fd (by omega)) (hb0.fd (by omega))).mono ?_; rintro e w4 ⟨z4, rfl, hz4, hb⟩; have hz3 := hz3.below hb (Nat.le_refl _); have hO4 := Lib.hid (hO3.out.call hb); clear hS; have hS := keep66 hO4.out; clear hb)
          | (go_at_call 47; refine (num_Over z3 z4 _ _ _ hz3 hz4 (fit_of (add_size (mul_size ha.num (show ((b.den : Int)).natAbs < 2 ^ k from hb0.den)) (mul_size' hb0.num (show ((a.den : Int)).natAbs < 2 ^ j from ha.den))) (by omega)) (fit_of (mul_size (show ((a.den : Int)).natAbs < 2 ^ j from ha.den) (show ((b.den : Int)).natAbs < 2 ^ k from hb0.den)) (by omega)) (den_ne a b)).mono ?_; rintro e w5 ⟨q5, rfl, hq5, hb⟩; have hO5 := Lib.hid (hO4.out.call hb); clear hS; have hS := keep66 hO5.out; clear hb; have hT := fun u1 u2 u3 u4 u5 u6 => keep66s hO5.out (SetB.set6 w5 (w.heap.size + 1 + 1) 0 1 2 3 4 5 u1 u2 u3 u4 u5 u6); obtain ⟨⟨e0, e1, e2, e3, e4, e5⟩, f0, f1, f2, f3, f4, f5⟩ := blk6 hO5.out.b2))
      go_wp2_with fail
      refine bodyPost_ret (v := .agg #[.int .i64 q5.n.x, .slice q5.n.A q5.n.l q5.n.c, .bool q5.n.g, .int .i64 q5.d.x, .slice q5.d.A q5.d.l q5.d.c, .bool q5.d.g]) (by simp [results, Try.results19, go_sem, e0, e1, e2, e3, e4, e5, f0, f1, f2, f3, f4, f5]) rfl (q_end (q := q5) hO5.out 2 rfl (by rw [add_rat]; exact hq5.1) (by rw [add_rat]; exact hq5.2) _ _ _ _ _ _)
  · have hd1 : decide (a.den = 1) = false := by simpa using h1
    clear h1
    have hO0 := Lib.hid (Own.three w 47 47 47 #[.int .i64 p.n.x, .slice p.n.A p.n.l p.n.c, .bool p.n.g, .int .i64 p.d.x, .slice p.d.A p.d.l p.d.c, .bool p.d.g] #[.int .i64 q.n.x, .slice q.n.A q.n.l q.n.c, .bool q.n.g, .int .i64 q.d.x, .slice q.d.A q.d.l q.d.c, .bool q.d.g] #[.int .i64 0, .slice none 0 0, .bool false, .int .i64 0, .slice none 0 0, .bool false])
    go_enter Try.func19, Try.ntmps19
    go_wp2_with fail
    refine (num_IsInt p a _ (hO0.out.qr hp) (ha.fd (by omega))).mono ?_
    rintro e w0 ⟨rfl, hb⟩
    have hOa := Lib.hid (hO0.out.call hb)
    clear hb
    obtain ⟨g0, g1, g2, g3, g4, g5⟩ := (keep66 hOa.out).2
    have hOb := hOa
    clear g0 g1 g2 g3 g4 g5
    have hS := keep66 hOb.out.drew
    obtain ⟨⟨g0, g1, g2, g3, g4, g5⟩, g6, g7, g8, g9, g10, g11⟩ := keep66 hOb.out
    clear hO0 hOa
    go_wp2_with fail
    go_region_held3 (fun w' => (w'.cell? ⟨w.heap.size, 0, none⟩ = some (.int .i64 p.n.x) ∧ w'.cell? ⟨w.heap.size, 1, none⟩ = some (.slice p.n.A p.n.l p.n.c) ∧ w'.cell? ⟨w.heap.size, 2, none⟩ = some (.bool p.n.g) ∧ w'.cell? ⟨w.heap.size, 3, none⟩ = some (.int .i64 p.d.x) ∧ w'.cell? ⟨w.heap.size, 4, none⟩ = some (.slice p.d.A p.d.l p.d.c) ∧ w'.cell? ⟨w.heap.size, 5, none⟩ = some (.bool p.d.g)) ∧ (w'.cell? ⟨w.heap.size + 1, 0, none⟩ = some (.int .i64 q.n.x) ∧ w'.cell? ⟨w.heap.size + 1, 1, none⟩ = some (.slice q.n.A q.n.l q.n.c) ∧ w'.cell? ⟨w.heap.size + 1, 2, none⟩ = some (.bool q.n.g) ∧ w'.cell? ⟨w.heap.size + 1, 3, none⟩ = some (.int .i64 q.d.x) ∧ w'.cell? ⟨w.heap.size + 1, 4, none⟩ = some (.slice q.d.A q.d.l q.d.c) ∧ w'.cell? ⟨w.heap.size + 1, 5, none⟩ = some (.bool q.d.g)))
      (first | (with_reducible exact hS) | (with_reducible exact hT _ _ _ _ _ _))
      (first
        | (go_at_call_of 48 (Value.agg #[.int .i64 p.n.x, .slice p.n.A p.n.l p.n.c, .bool p.n.g]); refine (num_Mul p.n q.d a.num b.den _ (hOb.out.drew.qr hp).1 (hOb.out.drew.qr hq).2 (ha.fn (by omega)) (hb0.fd (by omega))).mono ?_; rintro e w1 ⟨z1, rfl, hz1, hb⟩; have hO1 := Lib.hid (hOb.out.drew.call hb); clear hS; have hS := keep66 hO1.out; clear hb)
        | (go_at_call_of 48 (Value.agg #[.int .i64 q.n.x, .slice q.n.A q.n.l q.n.c, .bool q.n.g]); refine (num_Mul q.n p.d b.num a.den _ (hO1.out.qr hq).1 (hO1.out.qr hp).2 (hb0.fn (by omega)) (ha.fd (by omega))).mono ?_; rintro e w2 ⟨z2, rfl, hz2, hb⟩; have hz1 := hz1.below hb (Nat.le_refl _); have hO2 := Lib.hid (hO1.out.call hb); clear hS; have hS := keep66 hO2.out; clear hb)
        | (go_at_call 46; refine (num_Add z1 z2 _ _ _ hz1 hz2 (fit_of (mul_size ha.num (show ((b.den : Int)).natAbs < 2 ^ k from hb0.den)) (by omega)) (fit_of (mul_size' hb0.num (show ((a.den : Int)).natAbs < 2 ^ j from ha.den)) (by omega))).mono ?_; rintro e w3 ⟨z3, rfl, hz3, hb⟩; have hO3 := Lib.hid (hO2.out.call hb); clear hS; have hS := keep66 hO3.out; clear hb)
        | (go_at_call_of 48 (Value.agg #[.int .i64 p.d.x, .slice p.d.A p.d.l p.d.c, .bool p.d.g]); refine (num_Mul p.d q.d a.den b.den _ (hO3.out.qr hp).2 (hO3.out.qr hq).2 (ha.fd (by omega)) (hb0.fd (by omega))).mono ?_; rintro e w4 ⟨z4, rfl, hz4, hb⟩; have hz3 := hz3.below hb (Nat.le_refl _); have hO4 := Lib.hid (hO3.out.call hb); clear hS; have hS := keep66 hO4.out; clear hb)
        | (go_at_call 47; refine (num_Over z3 z4 _ _ _ hz3 hz4 (fit_of (add_size (mul_size ha.num (show ((b.den : Int)).natAbs < 2 ^ k from hb0.den)) (mul_size' hb0.num (show ((a.den : Int)).natAbs < 2 ^ j from ha.den))) (by omega)) (fit_of (mul_size (show ((a.den : Int)).natAbs < 2 ^ j from ha.den) (show ((b.den : Int)).natAbs < 2 ^ k from hb0.den)) (by omega)) (den_ne a b)).mono ?_; rintro e w5 ⟨q5, rfl, hq5, hb⟩; have hO5 := Lib.hid (hO4.out.call hb); clear hS; have hS := keep66 hO5.out; clear hb; have hT := fun u1 u2 u3 u4 u5 u6 => keep66s hO5.out (SetB.set6 w5 (w.heap.size + 1 + 1) 0 1 2 3 4 5 u1 u2 u3 u4 u5 u6); obtain ⟨⟨e0, e1, e2, e3, e4, e5⟩, f0, f1, f2, f3, f4, f5⟩ := blk6 hO5.out.b2))
    go_wp2_with fail
    refine bodyPost_ret (v := .agg #[.int .i64 q5.n.x, .slice q5.n.A q5.n.l q5.n.c, .bool q5.n.g, .int .i64 q5.d.x, .slice q5.d.A q5.d.l q5.d.c, .bool q5.d.g]) (by simp [results, Try.results19, go_sem, e0, e1, e2, e3, e4, e5, f0, f1, f2, f3, f4, f5]) rfl (q_end (q := q5) hO5.out 2 rfl (by rw [add_rat]; exact hq5.1) (by rw [add_rat]; exact hq5.2) _ _ _ _ _ _)

set_option maxRecDepth 100000 in
set_option maxHeartbeats 16000000 in
theorem num_QDiv (p q : Qv) (a b : Rat) (w : World) (j k : Nat) (hp : QR w p a) (hq : QR w q b) (ha : Sz j a) (hb0 : Sz k b) (hjk : j + k ≤ 9000000) (hne : Hid (b ≠ 0)) :
    Calls Try.prog 22 #[.agg #[.int .i64 p.n.x, .slice p.n.A p.n.l p.n.c, .bool p.n.g, .int .i64 p.d.x, .slice p.d.A p.d.l p.d.c, .bool p.d.g], .agg #[.int .i64 q.n.x, .slice q.n.A q.n.l q.n.c, .bool q.n.g, .int .i64 q.d.x, .slice q.d.A q.d.l q.d.c, .bool q.d.g]] w (PQ w (a / b)) := by
  have hu := Try.underlying45
  have hu2 := Try.underlying47
  have hO0 := Lib.hid (Own.three w 47 47 47 #[.int .i64 p.n.x, .slice p.n.A p.n.l p.n.c, .bool p.n.g, .int .i64 p.d.x, .slice p.d.A p.d.l p.d.c, .bool p.d.g] #[.int .i64 q.n.x, .slice q.n.A q.n.l q.n.c, .bool q.n.g, .int .i64 q.d.x, .slice q.d.A q.d.l q.d.c, .bool q.d.g] #[.int .i64 0, .slice none 0 0, .bool false, .int .i64 0, .slice none 0 0, .bool false])
  have hS := keep66 hO0.out.drew
  go_enter Try.func22, Try.ntmps22
  go_wp2_with fail
  go_region_held3 (fun w' => (w'.cell? ⟨w.heap.size, 0, none⟩ = some (.int .i64 p.n.x) ∧ w'.cell? ⟨w.heap.size, 1, none⟩ = some (.slice p.n.A p.n.l p.n.c) ∧ w'.cell? ⟨w.heap.size, 2, none⟩ = some (.bool p.n.g) ∧ w'.cell? ⟨w.heap.size, 3, none⟩ = some (.int .i64 p.d.x) ∧ w'.cell? ⟨w.heap.size, 4, none⟩ = some (.slice p.d.A p.d.l p.d.c) ∧ w'.cell? ⟨w.heap.size, 5, none⟩ = some (.bool p.d.g)) ∧ (w'.cell? ⟨w.heap.size + 1, 0, none⟩ = some (.int .i64 q.n.x) ∧ w'.cell? ⟨w.heap.size + 1, 1, none⟩ = some (.slice q.n.A q.n.l q.n.c) ∧ w'.cell? ⟨w.heap.size + 1, 2, none⟩ = some (.bool q.n.g) ∧ w'.cell? ⟨w.heap.size + 1, 3, none⟩ = some (.int .i64 q.d.x) ∧ w'.cell? ⟨w.heap.size + 1, 4, none⟩ = some (.slice q.d.A q.d.l q.d.c) ∧ w'.cell? ⟨w.heap.size + 1, 5, none⟩ = some (.bool q.d.g)))
    (first | (with_reducible exact hS) | (with_reducible exact hT _ _ _ _ _ _))
    (first
      | (go_at_call_of 48 (Value.agg #[.int .i64 p.n.x, .slice p.n.A p.n.l p.n.c, .bool p.n.g]); refine (num_Mul p.n q.d a.num b.den _ (hO0.out.drew.qr hp).1 (hO0.out.drew.qr hq).2 (ha.fn (by omega)) (hb0.fd (by omega))).mono ?_; rintro e w1 ⟨z1, rfl, hz1, hb⟩; have hO1 := Lib.hid (hO0.out.drew.call hb); clear hS; have hS := keep66 hO1.out; clear hb)
      | (go_at_call_of 48 (Value.agg #[.int .i64 p.d.x, .slice p.d.A p.d.l p.d.c, .bool p.d.g]); refine (num_Mul p.d q.n a.den b.num _ (hO1.out.qr hp).2 (hO1.out.qr hq).1 (ha.fd (by omega)) (hb0.fn (by omega))).mono ?_; rintro e w2 ⟨z2, rfl, hz2, hb⟩; have hz1 := hz1.below hb (Nat.le_refl _); have hO2 := Lib.hid (hO1.out.call hb); clear hS; have hS := keep66 hO2.out; clear hb)
      | (go_at_call 47; refine (num_Over z1 z2 _ _ _ hz1 hz2 (fit_of (mul_size ha.num (show ((b.den : Int)).natAbs < 2 ^ k from hb0.den)) (by omega)) (fit_of (mul_size (show ((a.den : Int)).natAbs < 2 ^ j from ha.den) hb0.num) (by omega)) (num_ne a b hne)).mono ?_; rintro e w3 ⟨q3, rfl, hq3, hb⟩; have hO3 := Lib.hid (hO2.out.call hb); clear hS; have hS := keep66 hO3.out; clear hb; have hT := fun u1 u2 u3 u4 u5 u6 => keep66s hO3.out (SetB.set6 w3 (w.heap.size + 1 + 1) 0 1 2 3 4 5 u1 u2 u3 u4 u5 u6); obtain ⟨⟨e0, e1, e2, e3, e4, e5⟩, f0, f1, f2, f3, f4, f5⟩ := blk6 hO3.out.b2))
  go_wp2_with fail
  refine bodyPost_ret (v := .agg #[.int .i64 q3.n.x, .slice q3.n.A q3.n.l q3.n.c, .bool q3.n.g, .int .i64 q3.d.x, .slice q3.d.A q3.d.l q3.d.c, .bool q3.d.g]) (by simp [results, Try.results22, go_sem, e0, e1, e2, e3, e4, e5, f0, f1, f2, f3, f4, f5]) rfl (q_end (q := q3) hO3.out 2 rfl (by rw [div_rat]; exact hq3.1) (by rw [div_rat]; exact hq3.2) _ _ _ _ _ _)

end Go.Proofs.Ytgoojlnfobjplaa
