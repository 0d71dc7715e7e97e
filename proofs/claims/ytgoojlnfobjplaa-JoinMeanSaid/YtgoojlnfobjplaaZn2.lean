import Derived.Test.YtgoojlnfobjplaaZn1
namespace Go.Proofs.Ytgoojlnfobjplaa
open Go.RowKit
set_option linter.unusedSimpArgs false
set_option linter.unusedVariables false
attribute [local go_sem] qn30 qe30

set_option maxRecDepth 100000 in
set_option maxHeartbeats 4000000 in
theorem num_I (a : Int) (ha : In64 a) (w : World) : Calls Try.prog 43 #[.int .i64 a] w (PZ w a) := by
  have hu := Try.underlying45
  go_enter Try.func43, Try.ntmps43
  go_wp2
  refine bodyPost_ret (v := .agg #[.int .i64 a, .slice none 0 0, .bool false]) (by simp [results, Try.results43, go_sem]) rfl ⟨⟨a, none, 0, 0, false⟩, rfl, ZR.small rfl ha, ?_⟩
  exact (Below.refl _ _).alloc (Nat.le_refl _) _

set_option maxRecDepth 100000 in
set_option maxHeartbeats 4000000 in
theorem num_IsInt (p : Qv) (r : Rat) (w : World) (hp : QR w p r) (hF : Fit (r.den : Int)) :
    Calls Try.prog 45 #[.agg #[.int .i64 p.n.x, .slice p.n.A p.n.l p.n.c, .bool p.n.g, .int .i64 p.d.x, .slice p.d.A p.d.l p.d.c, .bool p.d.g]] w fun e w' => e = .returned (.bool (decide (r.den = 1))) ∧ Below w.heap.size w w' := by
  have hu := Try.underlying45
  have hu2 := Try.underlying47
  have hO0 := Lib.hid (Own.one w 47 #[.int .i64 p.n.x, .slice p.n.A p.n.l p.n.c, .bool p.n.g, .int .i64 p.d.x, .slice p.d.A p.d.l p.d.c, .bool p.d.g])
  go_enter Try.func45, Try.ntmps45
  go_wp2_with fail
  have hS := keep6 hO0.out.drew
  go_region_held3 (fun w' => w'.cell? ⟨w.heap.size, 0, none⟩ = some (.int .i64 p.n.x) ∧ w'.cell? ⟨w.heap.size, 1, none⟩ = some (.slice p.n.A p.n.l p.n.c) ∧ w'.cell? ⟨w.heap.size, 2, none⟩ = some (.bool p.n.g) ∧ w'.cell? ⟨w.heap.size, 3, none⟩ = some (.int .i64 p.d.x) ∧ w'.cell? ⟨w.heap.size, 4, none⟩ = some (.slice p.d.A p.d.l p.d.c) ∧ w'.cell? ⟨w.heap.size, 5, none⟩ = some (.bool p.d.g))
    (first | (with_reducible exact hS) | (with_reducible exact hT _ _ _ _ _ _))
    (first
      | (go_at_call 43; refine (num_I 1 (by unfold In64; omega) _).mono ?_; rintro e w1 ⟨z1, rfl, hz1, hb⟩; have hO1 := Lib.hid (hO0.out.drew.call hb); clear hS; have hS := keep6 hO1.out; clear hb)
      | (go_at_call 68; refine (num_Cmp p.d z1 r.den 1 _ (hO1.out.qr hp).2 hz1 hF (fit_of (k := 1) (by decide) (by omega))).mono ?_; rintro e w2 ⟨rfl, hb⟩; have hO2 := Lib.hid (hO1.out.call hb); clear hS; have hS := keep6 hO2.out; clear hb))
  go_wp2_with fail
  go_ret
  exact ⟨ret_bool (isone r.den), hO2.out.1⟩

theorem q_end {w w1 : World} {bs : List (TypeId × Array Value)} {q : Qv} {r : Rat} (hO : Own w bs w1) (i : Nat) (hb : bs[i]? = some (47, #[.int .i64 0, .slice none 0 0, .bool false, .int .i64 0, .slice none 0 0, .bool false])) (h1 : ZR w1 q.n r.num) (h2 : ZR w1 q.d (r.den : Int)) (u1 u2 u3 u4 u5 u6 : Value) :
    PQ w r (.returned (.agg #[.int .i64 q.n.x, .slice q.n.A q.n.l q.n.c, .bool q.n.g, .int .i64 q.d.x, .slice q.d.A q.d.l q.d.c, .bool q.d.g])) ((((((w1.setCell ⟨w.heap.size + i, 0, none⟩ u1).setCell ⟨w.heap.size + i, 1, none⟩ u2).setCell ⟨w.heap.size + i, 2, none⟩ u3).setCell ⟨w.heap.size + i, 3, none⟩ u4).setCell ⟨w.heap.size + i, 4, none⟩ u5).setCell ⟨w.heap.size + i, 5, none⟩ u6) :=
  ⟨q, rfl, QR.set ⟨h1, h2⟩ (NoW.q (hO.blk i hb)) (SetB.set6 _ _ _ _ _ _ _ _ _ _ _ _ _ _), hO.set6 i _ _ _ _ _ _ _ _ _ _ _ _⟩

set_option maxRecDepth 100000 in
set_option maxHeartbeats 4000000 in
theorem num_IsZero (p : Qv) (r : Rat) (w : World) (hp : QR w p r) :
    Calls Try.prog 21 #[.agg #[.int .i64 p.n.x, .slice p.n.A p.n.l p.n.c, .bool p.n.g, .int .i64 p.d.x, .slice p.d.A p.d.l p.d.c, .bool p.d.g]] w fun e w' => e = .returned (.bool (decide (r.num = 0))) ∧ Below w.heap.size w w' := by
  have hu := Try.underlying45
  have hu2 := Try.underlying47
  have hO0 := Lib.hid (Own.one w 47 #[.int .i64 p.n.x, .slice p.n.A p.n.l p.n.c, .bool p.n.g, .int .i64 p.d.x, .slice p.d.A p.d.l p.d.c, .bool p.d.g])
  go_enter Try.func21, Try.ntmps21
  go_wp2_with fail
  refine (num_Sign p.n r.num _ (hO0.out.qr hp).1).mono ?_
  rintro e w1 ⟨rfl, hb⟩
  have hO1 := Lib.hid (hO0.out.call hb)
  clear hb
  go_wp2_with fail
  go_ret
  exact ⟨ret_bool (iszero r.num), hO1.out.1⟩

set_option maxRecDepth 100000 in
set_option maxHeartbeats 4000000 in
theorem num_QNeg (p : Qv) (r : Rat) (w : World) (hp : QR w p r) (hF : Fit r.num) :
    Calls Try.prog 18 #[.agg #[.int .i64 p.n.x, .slice p.n.A p.n.l p.n.c, .bool p.n.g, .int .i64 p.d.x, .slice p.d.A p.d.l p.d.c, .bool p.d.g]] w (PQ w (-r)) := by
  have hu := Try.underlying45
  have hu2 := Try.underlying47
  have hO0 := Lib.hid (Own.two w 47 47 #[.int .i64 p.n.x, .slice p.n.A p.n.l p.n.c, .bool p.n.g, .int .i64 p.d.x, .slice p.d.A p.d.l p.d.c, .bool p.d.g] #[.int .i64 0, .slice none 0 0, .bool false, .int .i64 0, .slice none 0 0, .bool false])
  go_enter Try.func18, Try.ntmps18
  go_wp2_with fail
  have hS := keep6 hO0.out.drew
  go_region_held3 (fun w' => w'.cell? ⟨w.heap.size, 0, none⟩ = some (.int .i64 p.n.x) ∧ w'.cell? ⟨w.heap.size, 1, none⟩ = some (.slice p.n.A p.n.l p.n.c) ∧ w'.cell? ⟨w.heap.size, 2, none⟩ = some (.bool p.n.g) ∧ w'.cell? ⟨w.heap.size, 3, none⟩ = some (.int .i64 p.d.x) ∧ w'.cell? ⟨w.heap.size, 4, none⟩ = some (.slice p.d.A p.d.l p.d.c) ∧ w'.cell? ⟨w.heap.size, 5, none⟩ = some (.bool p.d.g))
    (first | (with_reducible exact hS) | (with_reducible exact hT _ _ _ _ _ _))
    (first
      | (go_at_call 44; refine (num_Neg p.n r.num _ (hO0.out.drew.qr hp).1 hF).mono ?_; rintro e w1 ⟨z1, rfl, hz1, hb⟩; have hO1 := Lib.hid (hO0.out.drew.call hb); clear hS; have hS := keep6 hO1.out; clear hb; have hT := fun u1 u2 u3 u4 u5 u6 => keep6s hO1.out (SetB.set6 w1 (w.heap.size + 1) 0 1 2 3 4 5 u1 u2 u3 u4 u5 u6); obtain ⟨⟨e0, e1, e2, e3, e4, e5⟩, f0, f1, f2, f3, f4, f5⟩ := blk6 hO1.out.b1))
  go_wp2_with fail
  refine bodyPost_ret (v := .agg #[.int .i64 z1.x, .slice z1.A z1.l z1.c, .bool z1.g, .int .i64 p.d.x, .slice p.d.A p.d.l p.d.c, .bool p.d.g]) (by simp [results, Try.results18, go_sem, e0, e1, e2, e3, e4, e5, f0, f1, f2, f3, f4, f5]) rfl (q_end (q := ⟨z1, p.d⟩) hO1.out 1 rfl (by rw [(neg_rat r).1]; exact hz1) (by rw [(neg_rat r).2]; exact (hO1.out.qr hp).2) _ _ _ _ _ _)

end Go.Proofs.Ytgoojlnfobjplaa
