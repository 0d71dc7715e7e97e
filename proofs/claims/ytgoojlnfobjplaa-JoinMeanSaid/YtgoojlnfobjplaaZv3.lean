/- A fraction as a number of package api. -/
import Derived.Test.YtgoojlnfobjplaaZv2
namespace Go.Proofs.Ytgoojlnfobjplaa
open Go.RowKit
set_option linter.unusedSimpArgs false
set_option linter.unusedVariables false
attribute [local go_sem] qn30 qe30

theorem blk2 {w : World} {g : Nat} {t : TypeId} {a b : Value} (h : Blk w g t #[a, b]) : w.cell? ⟨g, 0, none⟩ = some a ∧ w.cell? ⟨g, 1, none⟩ = some b ∧ w.frozen? ⟨g, 0, none⟩ = false ∧ w.frozen? ⟨g, 1, none⟩ = false := ⟨h.cell 0, h.cell 1, h.frozen 0, h.frozen 1⟩
theorem Own.set2 {w w1 : World} {bs : List (TypeId × Array Value)} (h : Own w bs w1) (i : Nat) (a b : Nat) (u1 u2 : Value) : Below w.heap.size w ((w1.setCell ⟨w.heap.size + i, a, none⟩ u1).setCell ⟨w.heap.size + i, b, none⟩ u2) :=
  (h.1.setCell (p := ⟨w.heap.size + i, a, none⟩) (Nat.le_add_right _ _) _).setCell (p := ⟨w.heap.size + i, b, none⟩) (Nat.le_add_right _ _) _

set_option maxRecDepth 100000 in
set_option maxHeartbeats 4000000 in
theorem num_QOut (p : Qv) (r : Rat) (w : World) (hp : QR w p r) :
    Calls Try.prog 23 #[.agg #[.int .i64 p.n.x, .slice p.n.A p.n.l p.n.c, .bool p.n.g, .int .i64 p.d.x, .slice p.d.A p.d.l p.d.c, .bool p.d.g]] w (POut w r) := by
  have hu := Try.underlying47
  have hu2 := Try.underlying24
  have hO0 := Lib.hid (Own.two w 47 24 #[.int .i64 p.n.x, .slice p.n.A p.n.l p.n.c, .bool p.n.g, .int .i64 p.d.x, .slice p.d.A p.d.l p.d.c, .bool p.d.g] #[.int .i64 0, .int .i64 0])
  go_enter Try.func23, Try.ntmps23
  go_wp2_with fail
  refine (num_ZInt p.n r.num 1000000000000 _ (hO0.out.qr hp).1 (by omega) (by omega)).mono ?_
  rintro e w1 ⟨hb, hcase⟩
  have hO1 := Lib.hid (hO0.out.call hb)
  obtain ⟨g0, g1, g2, g3, g4, g5⟩ := keep6 hO1.out
  clear hb
  rcases hcase with ⟨n1, n2, rfl⟩ | ⟨n1, rfl⟩
  · have n1 := Lib.hid n1
    have n2 := Lib.hid n2
    go_wp2_with fail
    refine (num_ZInt p.d r.den 1000000000000 _ (hO1.out.qr hp).2 (by omega) (by omega)).mono ?_
    rintro e w2 ⟨hb, hcase⟩
    have hO2 := Lib.hid (hO1.out.call hb)
    clear hb g0 g1 g2 g3 g4 g5
    rcases hcase with ⟨n3, n4, rfl⟩ | ⟨n3, rfl⟩
    · have n3 := Lib.hid n3
      have n4 := Lib.hid n4
      obtain ⟨c0, c1, f0, f1⟩ := blk2 hO2.out.b1
      go_wp2_with fail
      refine bodyPost_ret (v := .tuple #[.agg #[.int .i64 r.num, .int .i64 r.den], .bool true]) (by simp [results, Try.results23, go_sem, c0, c1, f0, f1]) rfl ⟨hO2.out.set2 1 _ _ _ _, ?_⟩
      exact .inl ⟨n1.out, n2.out, n4.out, rfl⟩
    · have n3 := Lib.hid n3
      obtain ⟨c0, c1, f0, f1⟩ := blk2 hO2.out.b1
      go_wp2_with fail
      refine bodyPost_ret (v := .tuple #[.agg #[.int .i64 0, .int .i64 0], .bool false]) (by simp [results, Try.results23, go_sem, c0, c1, f0, f1]) rfl ⟨hO2.out.set2 1 _ _ _ _, ?_⟩
      exact .inr ⟨fun h => n3.out ⟨by omega, h.2.2⟩, rfl⟩
  · have n1 := Lib.hid n1
    go_wp2_with fail
    refine (num_ZInt p.d r.den 1000000000000 _ (hO1.out.qr hp).2 (by omega) (by omega)).mono ?_
    rintro e w2 ⟨hb, hcase⟩
    have hO2 := Lib.hid (hO1.out.call hb)
    clear hb g0 g1 g2 g3 g4 g5
    rcases hcase with ⟨n3, n4, rfl⟩ | ⟨n3, rfl⟩
    · have n3 := Lib.hid n3
      have n4 := Lib.hid n4
      obtain ⟨c0, c1, f0, f1⟩ := blk2 hO2.out.b1
      go_wp2_with fail
      refine bodyPost_ret (v := .tuple #[.agg #[.int .i64 0, .int .i64 0], .bool false]) (by simp [results, Try.results23, go_sem, c0, c1, f0, f1]) rfl ⟨hO2.out.set2 1 _ _ _ _, ?_⟩
      exact .inr ⟨fun h => n1.out ⟨h.1, h.2.1⟩, rfl⟩
    · have n3 := Lib.hid n3
      obtain ⟨c0, c1, f0, f1⟩ := blk2 hO2.out.b1
      go_wp2_with fail
      refine bodyPost_ret (v := .tuple #[.agg #[.int .i64 0, .int .i64 0], .bool false]) (by simp [results, Try.results23, go_sem, c0, c1, f0, f1]) rfl ⟨hO2.out.set2 1 _ _ _ _, ?_⟩
      exact .inr ⟨fun h => n1.out ⟨h.1, h.2.1⟩, rfl⟩

end Go.Proofs.Ytgoojlnfobjplaa
