/- Fractions of the reference: sum, product. -/
import Derived.Deep.CutRange
import Derived.Test.YtgoojlnfobjplaaRp
namespace Go.Proofs.Ytgoojlnfobjplaa
open Go.RowKit
set_option linter.unusedSimpArgs false
set_option linter.unusedVariables false
attribute [local go_sem] qn30 qe30


theorem Own.setB {w w1 : World} {bs : List (TypeId × Array Value)} {g : Nat} (h : Own w bs w1) (hg : w.heap.size + bs.length ≤ g) (u v : Value) : Own w bs ((w1.setCell ⟨g, 0, none⟩ u).setCell ⟨g, 1, none⟩ v) := by
  refine ⟨(h.1.setCell (p := ⟨g, 0, none⟩) (by show _ ≤ g; omega) u).setCell (p := ⟨g, 1, none⟩) (by show _ ≤ g; omega) v, Nat.le_trans h.2.1 (SetB.set2 w1 g 0 1 u v).1, fun i t cs hi => ?_⟩
  have hl := (List.getElem?_eq_some_iff.1 hi).1
  exact (heap_set2 w1 g u v _ (by omega)).trans (h.2.2 i t cs hi)
theorem Blk.call {w w' : World} {g : Nat} {t : TypeId} {cs : Array Value} (h : Blk w g t cs) (hb : Below w.heap.size w w') : Blk w' g t cs := h.below hb h.lt
theorem Blk.newE {w : World} {g : Nat} {t : TypeId} {cs : Array Value} (h : w.heap.size = g) : Blk (w.alloc (.cells cs t)) g t cs := by subst h; exact Blk.new _ _ _
theorem Blk.setO {w : World} {g g' : Nat} {t : TypeId} {cs : Array Value} (h : Blk w g t cs) (hne : g ≠ g') (u v : Value) : Blk ((w.setCell ⟨g', 0, none⟩ u).setCell ⟨g', 1, none⟩ v) g t cs := (heap_set2 w g' u v _ hne).trans h
theorem WR.more {w : World} {z n} (h : WR w z n) (o : Obj) : WR (w.alloc o) z n := h.below ((Below.refl _ _).alloc (Nat.le_refl _) _) (Nat.le_refl _)
theorem Blk.setZ {w : World} {g : Nat} (h : Blk w g 32 #[.slice none 0 0, .bool false]) (u v : Value) : Blk ((w.setCell ⟨g, 0, none⟩ u).setCell ⟨g, 1, none⟩ v) g 32 #[u, v] := Blk.setW2 h u v
theorem WR.setB {w : World} {z n} {g : Nat} (h : WR w z n) (hB : Blk w g 32 #[.slice none 0 0, .bool false]) (u v : Value) : WR ((w.setCell ⟨g, 0, none⟩ u).setCell ⟨g, 1, none⟩ v) z n := h.set (NoW.w hB) (SetB.set2 _ _ _ _ _ _)

/-- the two denominators lie in boxes -/
def CutAB (w : World) (p q : Qw) (a b : Int) (v5 v6 : Value) (wc : World) : Prop :=
  ∃ (ga gb : Nat) (za zb : Wv), v5 = .pointer (some ⟨ga, 0, none⟩) ∧ v6 = .pointer (some ⟨gb, 0, none⟩) ∧ w.heap.size + 3 ≤ ga ∧ w.heap.size + 3 ≤ gb ∧ ga ≠ gb ∧ Hid (Own w [(34, #[.slice p.n.A p.n.l p.n.c, .bool p.n.g, .slice p.d.A p.d.l p.d.c, .bool p.d.g]), (34, #[.slice q.n.A q.n.l q.n.c, .bool q.n.g, .slice q.d.A q.d.l q.d.c, .bool q.d.g]), (34, #[.slice none 0 0, .bool false, .slice none 0 0, .bool false])] wc) ∧ Blk wc ga 32 #[.slice za.A za.l za.c, .bool za.g] ∧ Blk wc gb 32 #[.slice zb.A zb.l zb.c, .bool zb.g] ∧ WR wc za a ∧ WR wc zb b

/-- .. and it is known whether both are 1 -/
def CutO (w : World) (p q : Qw) (a b : Int) (ga gb : Nat) (za zb : Wv) (v16 : Value) (wc : World) : Prop :=
  ∃ o : Bool, v16 = .bool o ∧ Hid (o = true → a = 1 ∧ b = 1) ∧ Hid (Own w [(34, #[.slice p.n.A p.n.l p.n.c, .bool p.n.g, .slice p.d.A p.d.l p.d.c, .bool p.d.g]), (34, #[.slice q.n.A q.n.l q.n.c, .bool q.n.g, .slice q.d.A q.d.l q.d.c, .bool q.d.g]), (34, #[.slice none 0 0, .bool false, .slice none 0 0, .bool false])] wc) ∧ Blk wc ga 32 #[.slice za.A za.l za.c, .bool za.g] ∧ Blk wc gb 32 #[.slice zb.A zb.l zb.c, .bool zb.g] ∧ WR wc za a ∧ WR wc zb b

theorem farQ {w w1 : World} {g k : Nat} {v : Value} (u1 u2 u3 u4 : Value) (h : w1.cell? ⟨g, k, none⟩ = some v) (hg : w.heap.size + 3 ≤ g) : ((((w1.setCell ⟨w.heap.size + 1 + 1, 0, none⟩ u1).setCell ⟨w.heap.size + 1 + 1, 1, none⟩ u2).setCell ⟨w.heap.size + 1 + 1, 2, none⟩ u3).setCell ⟨w.heap.size + 1 + 1, 3, none⟩ u4).cell? ⟨g, k, none⟩ = some v :=
  ((SetB.set4 w1 (w.heap.size + 1 + 1) 0 1 2 3 u1 u2 u3 u4).2 ⟨g, k, none⟩ (by show g ≠ _; omega)).trans h

theorem keepAB {w w1 : World} {p q : Qw} {t t1 : TypeId} {r} {ga gb : Nat} {za zb : Wv} (h : Own w ((t, #[.slice p.n.A p.n.l p.n.c, .bool p.n.g, .slice p.d.A p.d.l p.d.c, .bool p.d.g]) :: (t, #[.slice q.n.A q.n.l q.n.c, .bool q.n.g, .slice q.d.A q.d.l q.d.c, .bool q.d.g]) :: r) w1) (hBa : Blk w1 ga t1 #[.slice za.A za.l za.c, .bool za.g]) (hBb : Blk w1 gb t1 #[.slice zb.A zb.l zb.c, .bool zb.g]) : ((w1.cell? ⟨w.heap.size, 0, none⟩ = some (.slice p.n.A p.n.l p.n.c) ∧ w1.cell? ⟨w.heap.size, 1, none⟩ = some (.bool p.n.g) ∧ w1.cell? ⟨w.heap.size, 2, none⟩ = some (.slice p.d.A p.d.l p.d.c) ∧ w1.cell? ⟨w.heap.size, 3, none⟩ = some (.bool p.d.g)) ∧ (w1.cell? ⟨w.heap.size + 1, 0, none⟩ = some (.slice q.n.A q.n.l q.n.c) ∧ w1.cell? ⟨w.heap.size + 1, 1, none⟩ = some (.bool q.n.g) ∧ w1.cell? ⟨w.heap.size + 1, 2, none⟩ = some (.slice q.d.A q.d.l q.d.c) ∧ w1.cell? ⟨w.heap.size + 1, 3, none⟩ = some (.bool q.d.g))) ∧ (w1.cell? ⟨ga, 0, none⟩ = some (.slice za.A za.l za.c) ∧ w1.cell? ⟨ga, 1, none⟩ = some (.bool za.g)) ∧ (w1.cell? ⟨gb, 0, none⟩ = some (.slice zb.A zb.l zb.c) ∧ w1.cell? ⟨gb, 1, none⟩ = some (.bool zb.g)) :=
  ⟨keep44 h, ⟨hBa.cell 0, hBa.cell 1⟩, hBb.cell 0, hBb.cell 1⟩
theorem keepABs {w w1 : World} {p q : Qw} {t t1 : TypeId} {r} {ga gb : Nat} {za zb : Wv} (h : Own w ((t, #[.slice p.n.A p.n.l p.n.c, .bool p.n.g, .slice p.d.A p.d.l p.d.c, .bool p.d.g]) :: (t, #[.slice q.n.A q.n.l q.n.c, .bool q.n.g, .slice q.d.A q.d.l q.d.c, .bool q.d.g]) :: r) w1) (hBa : Blk w1 ga t1 #[.slice za.A za.l za.c, .bool za.g]) (hBb : Blk w1 gb t1 #[.slice zb.A zb.l zb.c, .bool zb.g]) (hga : w.heap.size + 3 ≤ ga) (hgb : w.heap.size + 3 ≤ gb) (u1 u2 u3 u4 : Value) {w2 : World} (hw : w2 = ((((w1.setCell ⟨w.heap.size + 1 + 1, 0, none⟩ u1).setCell ⟨w.heap.size + 1 + 1, 1, none⟩ u2).setCell ⟨w.heap.size + 1 + 1, 2, none⟩ u3).setCell ⟨w.heap.size + 1 + 1, 3, none⟩ u4)) : ((w2.cell? ⟨w.heap.size, 0, none⟩ = some (.slice p.n.A p.n.l p.n.c) ∧ w2.cell? ⟨w.heap.size, 1, none⟩ = some (.bool p.n.g) ∧ w2.cell? ⟨w.heap.size, 2, none⟩ = some (.slice p.d.A p.d.l p.d.c) ∧ w2.cell? ⟨w.heap.size, 3, none⟩ = some (.bool p.d.g)) ∧ (w2.cell? ⟨w.heap.size + 1, 0, none⟩ = some (.slice q.n.A q.n.l q.n.c) ∧ w2.cell? ⟨w.heap.size + 1, 1, none⟩ = some (.bool q.n.g) ∧ w2.cell? ⟨w.heap.size + 1, 2, none⟩ = some (.slice q.d.A q.d.l q.d.c) ∧ w2.cell? ⟨w.heap.size + 1, 3, none⟩ = some (.bool q.d.g))) ∧ (w2.cell? ⟨ga, 0, none⟩ = some (.slice za.A za.l za.c) ∧ w2.cell? ⟨ga, 1, none⟩ = some (.bool za.g)) ∧ (w2.cell? ⟨gb, 0, none⟩ = some (.slice zb.A zb.l zb.c) ∧ w2.cell? ⟨gb, 1, none⟩ = some (.bool zb.g)) := by
  subst hw
  exact ⟨keep44s h (SetB.set4 w1 (w.heap.size + 1 + 1) 0 1 2 3 u1 u2 u3 u4), ⟨farQ u1 u2 u3 u4 (hBa.cell 0) hga, farQ u1 u2 u3 u4 (hBa.cell 1) hga⟩, farQ u1 u2 u3 u4 (hBb.cell 0) hgb, farQ u1 u2 u3 u4 (hBb.cell 1) hgb⟩

set_option maxRecDepth 100000 in
set_option maxHeartbeats 16000000 in
theorem r_QAdd (p q : Qw) (a b : Rat) (w : World) (j k : Nat) (hp : QW w p a) (hq : QW w q b) (ha : Sz j a) (hb0 : Sz k b) (hjk : j + k ≤ 9000000) :
    Calls Try.prog 52 #[.agg #[.slice p.n.A p.n.l p.n.c, .bool p.n.g, .slice p.d.A p.d.l p.d.c, .bool p.d.g], .agg #[.slice q.n.A q.n.l q.n.c, .bool q.n.g, .slice q.d.A q.d.l q.d.c, .bool q.d.g]] w (PF w (a + b)) := by
  have hu := Try.underlying32
  have hu2 := Try.underlying34
  have hO0 := Lib.hid (Own.three w 34 34 34 #[.slice p.n.A p.n.l p.n.c, .bool p.n.g, .slice p.d.A p.d.l p.d.c, .bool p.d.g] #[.slice q.n.A q.n.l q.n.c, .bool q.n.g, .slice q.d.A q.d.l q.d.c, .bool q.d.g] #[.slice none 0 0, .bool false, .slice none 0 0, .bool false])
  have s1 := Lib.hid (ha.fn (by omega))
  have s2 := Lib.hid (ha.fd (by omega))
  have s3 := Lib.hid (hb0.fn (by omega))
  have s4 := Lib.hid (hb0.fd (by omega))
  have s5 := Lib.hid (fit_of (mul_size (a := a.num) (b := (b.den : Int)) ha.num (by simpa using hb0.den)) (by omega))
  have s6 := Lib.hid (fit_of (mul_size (a := b.num) (b := (a.den : Int)) hb0.num (by simpa using ha.den)) (by omega))
  have s7 := Lib.hid (fit_of (add_size (mul_size (a := a.num) (b := (b.den : Int)) ha.num (by simpa using hb0.den)) (mul_size' (a := b.num) (b := (a.den : Int)) hb0.num (by simpa using ha.den))) (by omega))
  have s8 := Lib.hid (fit_of (mul_size (a := (a.den : Int)) (b := (b.den : Int)) (by simpa using ha.den) (by simpa using hb0.den)) (by omega))
  have hpos : Hid (0 < (a.den : Int) * (b.den : Int)) := Int.mul_pos (by have := a.den_pos; omega) (by have := b.den_pos; omega)
  have hrat := Lib.hid (add_rat a b)
  have hm1 : Hid (1 = 1) := rfl
  have hO1 := hO0
  have hO2 := hO0
  go_enter Try.func52, Try.ntmps52
  go_upto_region 1 with fail
  go_cut [5, 6] from 7 to 10 (fun v5 v6 wc => CutAB w p q a.den b.den v5 v6 wc)
  case first =>
    go_region_held3 (fun w' => (w'.cell? ⟨w.heap.size, 0, none⟩ = some (.slice p.n.A p.n.l p.n.c) ∧ w'.cell? ⟨w.heap.size, 1, none⟩ = some (.bool p.n.g) ∧ w'.cell? ⟨w.heap.size, 2, none⟩ = some (.slice p.d.A p.d.l p.d.c) ∧ w'.cell? ⟨w.heap.size, 3, none⟩ = some (.bool p.d.g)) ∧ (w'.cell? ⟨w.heap.size + 1, 0, none⟩ = some (.slice q.n.A q.n.l q.n.c) ∧ w'.cell? ⟨w.heap.size + 1, 1, none⟩ = some (.bool q.n.g) ∧ w'.cell? ⟨w.heap.size + 1, 2, none⟩ = some (.slice q.d.A q.d.l q.d.c) ∧ w'.cell? ⟨w.heap.size + 1, 3, none⟩ = some (.bool q.d.g)))
      (exact keep44 (t := 34) (r := [(34, #[.slice none 0 0, .bool false, .slice none 0 0, .bool false])]) (by (repeat (first | (with_reducible exact hO2.out) | (with_reducible exact hO1.out) | (with_reducible exact hO0.out) | (with_reducible refine Own.drew ?_) | (with_reducible refine Own.more ?_ _) | (with_reducible refine Own.setB ?_ ?_ _ _) | (focus (simp only [List.length_cons, List.length_nil]; omega))))))
      (first
        | (have hz := hm1; go_at_call 34; clear hz hm1; refine (r_den p a _ (Own.qw (bs := [(34, #[.slice p.n.A p.n.l p.n.c, .bool p.n.g, .slice p.d.A p.d.l p.d.c, .bool p.d.g]), (34, #[.slice q.n.A q.n.l q.n.c, .bool q.n.g, .slice q.d.A q.d.l q.d.c, .bool q.d.g]), (34, #[.slice none 0 0, .bool false, .slice none 0 0, .bool false])]) ?_ hp)).mono ?_; (focus (repeat (first | (with_reducible exact hO2.out) | (with_reducible exact hO1.out) | (with_reducible exact hO0.out) | (with_reducible refine Own.drew ?_) | (with_reducible refine Own.more ?_ _) | (with_reducible refine Own.setB ?_ ?_ _ _) | (focus (simp only [List.length_cons, List.length_nil]; omega))))); rintro e w1 ⟨z1, rfl, hz1', hb1'⟩; have hO1 : Own w [(34, #[.slice p.n.A p.n.l p.n.c, .bool p.n.g, .slice p.d.A p.d.l p.d.c, .bool p.d.g]), (34, #[.slice q.n.A q.n.l q.n.c, .bool q.n.g, .slice q.d.A q.d.l q.d.c, .bool q.d.g]), (34, #[.slice none 0 0, .bool false, .slice none 0 0, .bool false])] w1 := (by (refine Own.call ?_ hb1'; (focus (repeat (first | (with_reducible exact hO2.out) | (with_reducible exact hO1.out) | (with_reducible exact hO0.out) | (with_reducible refine Own.drew ?_) | (with_reducible refine Own.more ?_ _) | (with_reducible refine Own.setB ?_ ?_ _ _) | (focus (simp only [List.length_cons, List.length_nil]; omega))))))); have hs1 : w.heap.size + 3 ≤ w1.heap.size := hO1.2.1; have hO1 := Lib.hid hO1; have hz1 := Lib.hid hz1'; have hb1 := Lib.hid hb1'; (try (refine (have hx3 : Blk w1 (w.heap.size + 1 + 1 + 1) 32 #[.slice none 0 0, .bool false] := Blk.call ?_ hb1'; ?_); (focus ((repeat (first | (with_reducible exact hx3) | (with_reducible exact hx4) | (with_reducible exact hy0) | (with_reducible exact hy1) | (with_reducible refine Blk.drew ?_) | (refine Blk.newE ?_; (focus ((try simp); all_goals fail))) | (with_reducible refine Blk.alloc ?_ _))); all_goals fail)); obtain ⟨dx0, dx1, dx2, dx3⟩ := blkW2 hx3; have dxn := Nat.ne_of_lt (Blk.lt hx3); have dxm := Ne.symm dxn; have dxl := Blk.lt hx3)); (try (refine (have hx4 : Blk w1 (w.heap.size + 1 + 1 + 1 + 1) 32 #[.slice none 0 0, .bool false] := Blk.call ?_ hb1'; ?_); (focus ((repeat (first | (with_reducible exact hx3) | (with_reducible exact hx4) | (with_reducible exact hy0) | (with_reducible exact hy1) | (with_reducible refine Blk.drew ?_) | (refine Blk.newE ?_; (focus ((try simp); all_goals fail))) | (with_reducible refine Blk.alloc ?_ _))); all_goals fail)); obtain ⟨dz0, dz1, dz2, dz3⟩ := blkW2 hx4; have dzn := Nat.ne_of_lt (Blk.lt hx4); have dzm := Ne.symm dzn; have dzl := Blk.lt hx4)))
        | (go_at_call 34; refine (r_den q b _ (Own.qw (bs := [(34, #[.slice p.n.A p.n.l p.n.c, .bool p.n.g, .slice p.d.A p.d.l p.d.c, .bool p.d.g]), (34, #[.slice q.n.A q.n.l q.n.c, .bool q.n.g, .slice q.d.A q.d.l q.d.c, .bool q.d.g]), (34, #[.slice none 0 0, .bool false, .slice none 0 0, .bool false])]) ?_ hq)).mono ?_; (focus (repeat (first | (with_reducible exact hO2.out) | (with_reducible exact hO1.out) | (with_reducible exact hO0.out) | (with_reducible refine Own.drew ?_) | (with_reducible refine Own.more ?_ _) | (with_reducible refine Own.setB ?_ ?_ _ _) | (focus (simp only [List.length_cons, List.length_nil]; omega))))); rintro e w2 ⟨z2, rfl, hz2', hb2'⟩; have hO2 : Own w [(34, #[.slice p.n.A p.n.l p.n.c, .bool p.n.g, .slice p.d.A p.d.l p.d.c, .bool p.d.g]), (34, #[.slice q.n.A q.n.l q.n.c, .bool q.n.g, .slice q.d.A q.d.l q.d.c, .bool q.d.g]), (34, #[.slice none 0 0, .bool false, .slice none 0 0, .bool false])] w2 := (by (refine Own.call ?_ hb2'; (focus (repeat (first | (with_reducible exact hO2.out) | (with_reducible exact hO1.out) | (with_reducible exact hO0.out) | (with_reducible refine Own.drew ?_) | (with_reducible refine Own.more ?_ _) | (with_reducible refine Own.setB ?_ ?_ _ _) | (focus (simp only [List.length_cons, List.length_nil]; omega))))))); have hs2 : w.heap.size + 3 ≤ w2.heap.size := hO2.2.1; have hO2 := Lib.hid hO2; have hz2 := Lib.hid hz2'; have hb2 := Lib.hid hb2'; (try (refine (have hx3 : Blk w2 (w.heap.size + 1 + 1 + 1) 32 #[.slice none 0 0, .bool false] := Blk.call ?_ hb2'; ?_); (focus ((repeat (first | (with_reducible exact hx3) | (with_reducible exact hx4) | (with_reducible exact hy0) | (with_reducible exact hy1) | (with_reducible refine Blk.drew ?_) | (refine Blk.newE ?_; (focus ((try simp); all_goals fail))) | (with_reducible refine Blk.alloc ?_ _))); all_goals fail)); obtain ⟨cx0, cx1, cx2, cx3⟩ := blkW2 hx3; have cxn := Nat.ne_of_lt (Blk.lt hx3); have cxm := Ne.symm cxn; have cxl := Blk.lt hx3)); (try (refine (have hx4 : Blk w2 (w.heap.size + 1 + 1 + 1 + 1) 32 #[.slice none 0 0, .bool false] := Blk.call ?_ hb2'; ?_); (focus ((repeat (first | (with_reducible exact hx3) | (with_reducible exact hx4) | (with_reducible exact hy0) | (with_reducible exact hy1) | (with_reducible refine Blk.drew ?_) | (refine Blk.newE ?_; (focus ((try simp); all_goals fail))) | (with_reducible refine Blk.alloc ?_ _))); all_goals fail)); obtain ⟨cz0, cz1, cz2, cz3⟩ := blkW2 hx4; have czn := Nat.ne_of_lt (Blk.lt hx4); have czm := Ne.symm czn; have czl := Blk.lt hx4)); (try (refine (have hy0 : Blk w2 (w1.heap.size) 32 #[.slice none 0 0, .bool false] := Blk.call ?_ hb2'; ?_); (focus ((repeat (first | (with_reducible exact hx3) | (with_reducible exact hx4) | (with_reducible exact hy0) | (with_reducible exact hy1) | (with_reducible refine Blk.drew ?_) | (refine Blk.newE ?_; (focus ((try simp); all_goals fail))) | (with_reducible refine Blk.alloc ?_ _))); all_goals fail)); obtain ⟨cy0, cy1, cy2, cy3⟩ := blkW2 hy0; have cyn := Nat.ne_of_lt (Blk.lt hy0); have cym := Ne.symm cyn; have cyl := Blk.lt hy0)); (try (refine (have hy1 : Blk w2 (w1.heap.size + 1) 32 #[.slice none 0 0, .bool false] := Blk.call ?_ hb2'; ?_); (focus ((repeat (first | (with_reducible exact hx3) | (with_reducible exact hx4) | (with_reducible exact hy0) | (with_reducible exact hy1) | (with_reducible refine Blk.drew ?_) | (refine Blk.newE ?_; (focus ((try simp); all_goals fail))) | (with_reducible refine Blk.alloc ?_ _))); all_goals fail)); obtain ⟨cu0, cu1, cu2, cu3⟩ := blkW2 hy1; have cun := Nat.ne_of_lt (Blk.lt hy1); have cum := Ne.symm cun; have cul := Blk.lt hy1))))
    all_goals (go_wp2_with fail; go_meet)
    all_goals refine ⟨_, _, z1, z2, rfl, rfl, ?_, ?_, ?_, (show Own w [(34, #[.slice p.n.A p.n.l p.n.c, .bool p.n.g, .slice p.d.A p.d.l p.d.c, .bool p.d.g]), (34, #[.slice q.n.A q.n.l q.n.c, .bool q.n.g, .slice q.d.A q.d.l q.d.c, .bool q.d.g]), (34, #[.slice none 0 0, .bool false, .slice none 0 0, .bool false])] _ from ?_), ?_, ?_, ?_, ?_⟩
    all_goals (repeat (first | (with_reducible exact hO2.out) | (with_reducible exact hz1.out) | (with_reducible exact hz2.out) | (with_reducible exact hx3) | (with_reducible exact hx4) | (with_reducible exact hy0) | (with_reducible exact hy1) | (with_reducible refine Own.drew ?_) | (with_reducible refine Own.more ?_ _) | (with_reducible refine Own.setB ?_ ?_ _ _) | (with_reducible refine WR.drew ?_) | (with_reducible refine WR.more ?_ _) | (with_reducible refine WR.setB ?_ ?_ _ _) | (with_reducible refine WR.belowH ?_ hb2') | (with_reducible refine Blk.drew ?_) | (with_reducible refine Blk.setZ ?_ _ _) | (with_reducible refine Blk.setO ?_ ?_ _ _) | (refine Blk.newE ?_; (focus ((try simp); all_goals fail))) | (with_reducible refine Blk.alloc ?_ _) | (focus (simp only [List.length_cons, List.length_nil]; omega)) | omega))
  case rest =>
    obtain ⟨ga, gb, za, zb, rfl, rfl, hga, hgb, hne, hO0, hBa0, hBb0, hza0, hzb0⟩ := hcut
    have hm2 : Hid (1 = 1) := rfl
    go_upto_region 2 with (fail)
    go_cut [16] from 11 to 16 (fun v16 wc => CutO w p q a.den b.den ga gb za zb v16 wc)
    case first =>
      obtain ⟨a0, a1, -, -⟩ := blkW2 hBa0
      obtain ⟨oa, hoa'⟩ : ∃ oa, oa = decide ((a.den : Int) = 1) := ⟨_, rfl⟩
      have ho := r_isOne za a.den wc hza0
      rw [← hoa'] at ho
      have hoa := Lib.hid hoa'
      clear hoa'
      go_wp2_with fail
      refine ho.mono ?_
      clear ho
      rintro e x1 ⟨rfl, hb⟩
      have hO1 := Lib.hid (hO0.out.call hb)
      have hBa1 := Blk.call hBa0 hb
      have hBb1 := Blk.call hBb0 hb
      have hza1 := hza0.belowH hb
      have hzb1 := hzb0.belowH hb
      clear hb a0 a1
      cases oa with
      | false =>
        go_wp2_with fail
        go_meet
        exact ⟨false, rfl, (fun h => by cases h), hO1, hBa1, hBb1, hza1, hzb1⟩
      | true =>
        obtain ⟨b0, b1, -, -⟩ := blkW2 hBb1
        obtain ⟨ob, hob'⟩ : ∃ ob, ob = decide ((b.den : Int) = 1) := ⟨_, rfl⟩
        have ho := r_isOne zb b.den x1 hzb1
        rw [← hob'] at ho
        have hob := Lib.hid hob'
        clear hob'
        go_wp2_with fail
        refine ho.mono ?_
        clear ho
        rintro e x2 ⟨rfl, hb⟩
        have hO2 := Lib.hid (hO1.out.call hb)
        have hBa2 := Blk.call hBa1 hb
        have hBb2 := Blk.call hBb1 hb
        have hza2 := hza1.belowH hb
        have hzb2 := hzb1.belowH hb
        have hboth : Hid (ob = true → (a.den : Int) = 1 ∧ (b.den : Int) = 1) := fun h => by
          have h1 := hoa.out
          have h2 := hob.out
          rw [h] at h2
          exact ⟨by simpa using h1.symm, by simpa using h2.symm⟩
        clear hb b0 b1
        go_wp2_with fail
        go_meet
        exact ⟨ob, rfl, hboth, hO2, hBa2, hBb2, hza2, hzb2⟩
    case rest =>
      obtain ⟨o, rfl, hone, hO0, hBa0, hBb0, hza0, hzb0⟩ := hcut
      have hS := keepAB (hO0.out.drew) (hBa0.drew) (hBb0.drew)
      cases o with
      | true =>
        obtain ⟨ha1, hb1⟩ := hone.out rfl
        have hres : ∀ (w' : World) (z : Wv), WR w' z (a.num + b.num) → WR w' za a.den → QW w' ⟨z, za⟩ (a + b) := fun w' z h1 h2 => by
          have h3 := int_add a b (by omega) (by omega)
          exact ⟨by rw [h3.1]; exact h1, _, h2, .inl (by rw [h3.2, ha1]; rfl)⟩
        have hres := Lib.hid hres
        clear ha1 hb1 hone
        go_wp2_with fail
        go_region_held3 (fun w' => ((w'.cell? ⟨w.heap.size, 0, none⟩ = some (.slice p.n.A p.n.l p.n.c) ∧ w'.cell? ⟨w.heap.size, 1, none⟩ = some (.bool p.n.g) ∧ w'.cell? ⟨w.heap.size, 2, none⟩ = some (.slice p.d.A p.d.l p.d.c) ∧ w'.cell? ⟨w.heap.size, 3, none⟩ = some (.bool p.d.g)) ∧ (w'.cell? ⟨w.heap.size + 1, 0, none⟩ = some (.slice q.n.A q.n.l q.n.c) ∧ w'.cell? ⟨w.heap.size + 1, 1, none⟩ = some (.bool q.n.g) ∧ w'.cell? ⟨w.heap.size + 1, 2, none⟩ = some (.slice q.d.A q.d.l q.d.c) ∧ w'.cell? ⟨w.heap.size + 1, 3, none⟩ = some (.bool q.d.g))) ∧ (w'.cell? ⟨ga, 0, none⟩ = some (.slice za.A za.l za.c) ∧ w'.cell? ⟨ga, 1, none⟩ = some (.bool za.g)) ∧ (w'.cell? ⟨gb, 0, none⟩ = some (.slice zb.A zb.l zb.c) ∧ w'.cell? ⟨gb, 1, none⟩ = some (.bool zb.g)))
          (first | (with_reducible exact hS) | (with_reducible exact hT _ _ _ _))
          (first
            | (go_at_call 75; refine (r_add p.n q.n a.num b.num _ (hO0.out.drew.qw hp).1 (hO0.out.drew.qw hq).1 s1.out s3.out).mono ?_; rintro e x1 ⟨z1, rfl, hx1, hb⟩; have hO1 := Lib.hid (hO0.out.drew.call hb); have hBa1 := Blk.call hBa0.drew hb; have hBb1 := Blk.call hBb0.drew hb; have hza1 := hza0.drew.belowH hb; have hzb1 := hzb0.drew.belowH hb; clear hS; have hS := keepAB (hO1.out) (hBa1) (hBb1); have hT := fun u1 u2 u3 u4 => keepABs hO1.out hBa1 hBb1 hga hgb u1 u2 u3 u4 rfl; obtain ⟨⟨e0, e1, e2, e3⟩, f0, f1, f2, f3⟩ := blkW4 hO1.out.b2; clear hb))
        go_wp2_with fail
        have hq1 := hres.out x1 z1 hx1 hza1
        refine bodyPost_ret (v := .agg #[.slice z1.A z1.l z1.c, .bool z1.g, .slice za.A za.l za.c, .bool za.g]) (by simp [results, Try.results52, go_sem, e0, e1, e2, e3, f0, f1, f2, f3]) rfl ⟨⟨z1, za⟩, rfl, hq1.set (NoW.w4 hO1.out.b2) (SetB.set4 _ _ _ _ _ _ _ _ _ _), hO1.out.setW4 2 _ _ _ _ _ _ _ _⟩
      | false =>
        clear hone
        go_wp2_with fail
        go_region_held3 (fun w' => ((w'.cell? ⟨w.heap.size, 0, none⟩ = some (.slice p.n.A p.n.l p.n.c) ∧ w'.cell? ⟨w.heap.size, 1, none⟩ = some (.bool p.n.g) ∧ w'.cell? ⟨w.heap.size, 2, none⟩ = some (.slice p.d.A p.d.l p.d.c) ∧ w'.cell? ⟨w.heap.size, 3, none⟩ = some (.bool p.d.g)) ∧ (w'.cell? ⟨w.heap.size + 1, 0, none⟩ = some (.slice q.n.A q.n.l q.n.c) ∧ w'.cell? ⟨w.heap.size + 1, 1, none⟩ = some (.bool q.n.g) ∧ w'.cell? ⟨w.heap.size + 1, 2, none⟩ = some (.slice q.d.A q.d.l q.d.c) ∧ w'.cell? ⟨w.heap.size + 1, 3, none⟩ = some (.bool q.d.g))) ∧ (w'.cell? ⟨ga, 0, none⟩ = some (.slice za.A za.l za.c) ∧ w'.cell? ⟨ga, 1, none⟩ = some (.bool za.g)) ∧ (w'.cell? ⟨gb, 0, none⟩ = some (.slice zb.A zb.l zb.c) ∧ w'.cell? ⟨gb, 1, none⟩ = some (.bool zb.g)))
          (first | (with_reducible exact hS) | (with_reducible exact hT _ _ _ _))
          (first
            | (have hz := hm1; go_at_call 33; clear hz hm1; refine (r_mul p.n zb a.num b.den _ (hO0.out.drew.qw hp).1 hzb0.drew s1.out s4.out).mono ?_; rintro e x1 ⟨z1, rfl, hx1, hb⟩; have hO1 := Lib.hid (hO0.out.drew.call hb); have hBa1 := Blk.call hBa0.drew hb; have hBb1 := Blk.call hBb0.drew hb; have hza1 := hza0.drew.belowH hb; have hzb1 := hzb0.drew.belowH hb; clear hS; have hS := keepAB (hO1.out) (hBa1) (hBb1); clear hb)
            | (have hz := hm2; go_at_call 33; clear hz hm2; refine (r_mul q.n za b.num a.den _ (hO1.out.qw hq).1 hza1 s3.out s2.out).mono ?_; rintro e x2 ⟨z2, rfl, hx2, hb⟩; have hO2 := Lib.hid (hO1.out.call hb); have hBa2 := Blk.call hBa1 hb; have hBb2 := Blk.call hBb1 hb; have hza2 := hza1.belowH hb; have hzb2 := hzb1.belowH hb; have hx12 := hx1.belowH hb; clear hS; have hS := keepAB (hO2.out) (hBa2) (hBb2); clear hb)
            | (go_at_call 75; refine (r_add z1 z2 _ _ _ hx12 hx2 s5.out s6.out).mono ?_; rintro e x3 ⟨z3, rfl, hx3, hb⟩; have hO3 := Lib.hid (hO2.out.call hb); have hBa3 := Blk.call hBa2 hb; have hBb3 := Blk.call hBb2 hb; have hza3 := hza2.belowH hb; have hzb3 := hzb2.belowH hb; clear hS; have hS := keepAB (hO3.out) (hBa3) (hBb3); clear hb)
            | (go_at_call 33; refine (r_mul za zb a.den b.den _ hza3 hzb3 s2.out s4.out).mono ?_; rintro e x4 ⟨z4, rfl, hx4, hb⟩; have hO4 := Lib.hid (hO3.out.call hb); have hBa4 := Blk.call hBa3 hb; have hBb4 := Blk.call hBb3 hb; have hza4 := hza3.belowH hb; have hzb4 := hzb3.belowH hb; have hx34 := hx3.belowH hb; clear hS; have hS := keepAB (hO4.out) (hBa4) (hBb4); clear hb)
            | (go_at_call 31; refine (r_ratio z3 z4 _ _ _ hx34 hx4 s7.out s8.out hpos.out).mono ?_; rintro e x5 ⟨z5, rfl, hx5, hb⟩; have hO5 := Lib.hid (hO4.out.call hb); have hBa5 := Blk.call hBa4 hb; have hBb5 := Blk.call hBb4 hb; have hza5 := hza4.belowH hb; have hzb5 := hzb4.belowH hb; clear hS; have hS := keepAB (hO5.out) (hBa5) (hBb5); have hT := fun u1 u2 u3 u4 => keepABs hO5.out hBa5 hBb5 hga hgb u1 u2 u3 u4 rfl; obtain ⟨⟨e0, e1, e2, e3⟩, f0, f1, f2, f3⟩ := blkW4 hO5.out.b2; clear hb))
        go_wp2_with fail
        rw [← hrat.out] at hx5
        refine bodyPost_ret (v := .agg #[.slice z5.n.A z5.n.l z5.n.c, .bool z5.n.g, .slice z5.d.A z5.d.l z5.d.c, .bool z5.d.g]) (by simp [results, Try.results52, go_sem, e0, e1, e2, e3, f0, f1, f2, f3]) rfl ⟨z5, rfl, hx5.set (NoW.w4 hO5.out.b2) (SetB.set4 _ _ _ _ _ _ _ _ _ _), hO5.out.setW4 2 _ _ _ _ _ _ _ _⟩

set_option maxRecDepth 100000 in
set_option maxHeartbeats 16000000 in
theorem r_QMul (p q : Qw) (a b : Rat) (w : World) (j k : Nat) (hp : QW w p a) (hq : QW w q b) (ha : Sz j a) (hb0 : Sz k b) (hjk : j + k ≤ 9000000) :
    Calls Try.prog 26 #[.agg #[.slice p.n.A p.n.l p.n.c, .bool p.n.g, .slice p.d.A p.d.l p.d.c, .bool p.d.g], .agg #[.slice q.n.A q.n.l q.n.c, .bool q.n.g, .slice q.d.A q.d.l q.d.c, .bool q.d.g]] w (PF w (a * b)) := by
  have hu := Try.underlying32
  have hu2 := Try.underlying34
  have hO0 := Lib.hid (Own.three w 34 34 34 #[.slice p.n.A p.n.l p.n.c, .bool p.n.g, .slice p.d.A p.d.l p.d.c, .bool p.d.g] #[.slice q.n.A q.n.l q.n.c, .bool q.n.g, .slice q.d.A q.d.l q.d.c, .bool q.d.g] #[.slice none 0 0, .bool false, .slice none 0 0, .bool false])
  have s1 := Lib.hid (ha.fn (by omega))
  have s2 := Lib.hid (ha.fd (by omega))
  have s3 := Lib.hid (hb0.fn (by omega))
  have s4 := Lib.hid (hb0.fd (by omega))
  have s5 := Lib.hid (fit_of (mul_size (a := a.num) (b := b.num) ha.num hb0.num) (by omega))
  have s8 := Lib.hid (fit_of (mul_size (a := (a.den : Int)) (b := (b.den : Int)) (by simpa using ha.den) (by simpa using hb0.den)) (by omega))
  have hpos : Hid (0 < (a.den : Int) * (b.den : Int)) := Int.mul_pos (by have := a.den_pos; omega) (by have := b.den_pos; omega)
  have hrat := Lib.hid (mul_rat a b)
  have hm1 : Hid (1 = 1) := rfl
  have hO1 := hO0
  have hO2 := hO0
  go_enter Try.func26, Try.ntmps26
  go_upto_region 1 with fail
  go_cut [5, 6] from 7 to 10 (fun v5 v6 wc => CutAB w p q a.den b.den v5 v6 wc)
  case first =>
    go_region_held3 (fun w' => (w'.cell? ⟨w.heap.size, 0, none⟩ = some (.slice p.n.A p.n.l p.n.c) ∧ w'.cell? ⟨w.heap.size, 1, none⟩ = some (.bool p.n.g) ∧ w'.cell? ⟨w.heap.size, 2, none⟩ = some (.slice p.d.A p.d.l p.d.c) ∧ w'.cell? ⟨w.heap.size, 3, none⟩ = some (.bool p.d.g)) ∧ (w'.cell? ⟨w.heap.size + 1, 0, none⟩ = some (.slice q.n.A q.n.l q.n.c) ∧ w'.cell? ⟨w.heap.size + 1, 1, none⟩ = some (.bool q.n.g) ∧ w'.cell? ⟨w.heap.size + 1, 2, none⟩ = some (.slice q.d.A q.d.l q.d.c) ∧ w'.cell? ⟨w.heap.size + 1, 3, none⟩ = some (.bool q.d.g)))
      (exact keep44 (t := 34) (r := [(34, #[.slice none 0 0, .bool false, .slice none 0 0, .bool false])]) (by (repeat (first | (with_reducible exact hO2.out) | (with_reducible exact hO1.out) | (with_reducible exact hO0.out) | (with_reducible refine Own.drew ?_) | (with_reducible refine Own.more ?_ _) | (with_reducible refine Own.setB ?_ ?_ _ _) | (focus (simp only [List.length_cons, List.length_nil]; omega))))))
      (first
        | (have hz := hm1; go_at_call 34; clear hz hm1; refine (r_den p a _ (Own.qw (bs := [(34, #[.slice p.n.A p.n.l p.n.c, .bool p.n.g, .slice p.d.A p.d.l p.d.c, .bool p.d.g]), (34, #[.slice q.n.A q.n.l q.n.c, .bool q.n.g, .slice q.d.A q.d.l q.d.c, .bool q.d.g]), (34, #[.slice none 0 0, .bool false, .slice none 0 0, .bool false])]) ?_ hp)).mono ?_; (focus (repeat (first | (with_reducible exact hO2.out) | (with_reducible exact hO1.out) | (with_reducible exact hO0.out) | (with_reducible refine Own.drew ?_) | (with_reducible refine Own.more ?_ _) | (with_reducible refine Own.setB ?_ ?_ _ _) | (focus (simp only [List.length_cons, List.length_nil]; omega))))); rintro e w1 ⟨z1, rfl, hz1', hb1'⟩; have hO1 : Own w [(34, #[.slice p.n.A p.n.l p.n.c, .bool p.n.g, .slice p.d.A p.d.l p.d.c, .bool p.d.g]), (34, #[.slice q.n.A q.n.l q.n.c, .bool q.n.g, .slice q.d.A q.d.l q.d.c, .bool q.d.g]), (34, #[.slice none 0 0, .bool false, .slice none 0 0, .bool false])] w1 := (by (refine Own.call ?_ hb1'; (focus (repeat (first | (with_reducible exact hO2.out) | (with_reducible exact hO1.out) | (with_reducible exact hO0.out) | (with_reducible refine Own.drew ?_) | (with_reducible refine Own.more ?_ _) | (with_reducible refine Own.setB ?_ ?_ _ _) | (focus (simp only [List.length_cons, List.length_nil]; omega))))))); have hs1 : w.heap.size + 3 ≤ w1.heap.size := hO1.2.1; have hO1 := Lib.hid hO1; have hz1 := Lib.hid hz1'; have hb1 := Lib.hid hb1'; (try (refine (have hx3 : Blk w1 (w.heap.size + 1 + 1 + 1) 32 #[.slice none 0 0, .bool false] := Blk.call ?_ hb1'; ?_); (focus ((repeat (first | (with_reducible exact hx3) | (with_reducible exact hx4) | (with_reducible exact hy0) | (with_reducible exact hy1) | (with_reducible refine Blk.drew ?_) | (refine Blk.newE ?_; (focus ((try simp); all_goals fail))) | (with_reducible refine Blk.alloc ?_ _))); all_goals fail)); obtain ⟨dx0, dx1, dx2, dx3⟩ := blkW2 hx3; have dxn := Nat.ne_of_lt (Blk.lt hx3); have dxm := Ne.symm dxn; have dxl := Blk.lt hx3)); (try (refine (have hx4 : Blk w1 (w.heap.size + 1 + 1 + 1 + 1) 32 #[.slice none 0 0, .bool false] := Blk.call ?_ hb1'; ?_); (focus ((repeat (first | (with_reducible exact hx3) | (with_reducible exact hx4) | (with_reducible exact hy0) | (with_reducible exact hy1) | (with_reducible refine Blk.drew ?_) | (refine Blk.newE ?_; (focus ((try simp); all_goals fail))) | (with_reducible refine Blk.alloc ?_ _))); all_goals fail)); obtain ⟨dz0, dz1, dz2, dz3⟩ := blkW2 hx4; have dzn := Nat.ne_of_lt (Blk.lt hx4); have dzm := Ne.symm dzn; have dzl := Blk.lt hx4)))
        | (go_at_call 34; refine (r_den q b _ (Own.qw (bs := [(34, #[.slice p.n.A p.n.l p.n.c, .bool p.n.g, .slice p.d.A p.d.l p.d.c, .bool p.d.g]), (34, #[.slice q.n.A q.n.l q.n.c, .bool q.n.g, .slice q.d.A q.d.l q.d.c, .bool q.d.g]), (34, #[.slice none 0 0, .bool false, .slice none 0 0, .bool false])]) ?_ hq)).mono ?_; (focus (repeat (first | (with_reducible exact hO2.out) | (with_reducible exact hO1.out) | (with_reducible exact hO0.out) | (with_reducible refine Own.drew ?_) | (with_reducible refine Own.more ?_ _) | (with_reducible refine Own.setB ?_ ?_ _ _) | (focus (simp only [List.length_cons, List.length_nil]; omega))))); rintro e w2 ⟨z2, rfl, hz2', hb2'⟩; have hO2 : Own w [(34, #[.slice p.n.A p.n.l p.n.c, .bool p.n.g, .slice p.d.A p.d.l p.d.c, .bool p.d.g]), (34, #[.slice q.n.A q.n.l q.n.c, .bool q.n.g, .slice q.d.A q.d.l q.d.c, .bool q.d.g]), (34, #[.slice none 0 0, .bool false, .slice none 0 0, .bool false])] w2 := (by (refine Own.call ?_ hb2'; (focus (repeat (first | (with_reducible exact hO2.out) | (with_reducible exact hO1.out) | (with_reducible exact hO0.out) | (with_reducible refine Own.drew ?_) | (with_reducible refine Own.more ?_ _) | (with_reducible refine Own.setB ?_ ?_ _ _) | (focus (simp only [List.length_cons, List.length_nil]; omega))))))); have hs2 : w.heap.size + 3 ≤ w2.heap.size := hO2.2.1; have hO2 := Lib.hid hO2; have hz2 := Lib.hid hz2'; have hb2 := Lib.hid hb2'; (try (refine (have hx3 : Blk w2 (w.heap.size + 1 + 1 + 1) 32 #[.slice none 0 0, .bool false] := Blk.call ?_ hb2'; ?_); (focus ((repeat (first | (with_reducible exact hx3) | (with_reducible exact hx4) | (with_reducible exact hy0) | (with_reducible exact hy1) | (with_reducible refine Blk.drew ?_) | (refine Blk.newE ?_; (focus ((try simp); all_goals fail))) | (with_reducible refine Blk.alloc ?_ _))); all_goals fail)); obtain ⟨cx0, cx1, cx2, cx3⟩ := blkW2 hx3; have cxn := Nat.ne_of_lt (Blk.lt hx3); have cxm := Ne.symm cxn; have cxl := Blk.lt hx3)); (try (refine (have hx4 : Blk w2 (w.heap.size + 1 + 1 + 1 + 1) 32 #[.slice none 0 0, .bool false] := Blk.call ?_ hb2'; ?_); (focus ((repeat (first | (with_reducible exact hx3) | (with_reducible exact hx4) | (with_reducible exact hy0) | (with_reducible exact hy1) | (with_reducible refine Blk.drew ?_) | (refine Blk.newE ?_; (focus ((try simp); all_goals fail))) | (with_reducible refine Blk.alloc ?_ _))); all_goals fail)); obtain ⟨cz0, cz1, cz2, cz3⟩ := blkW2 hx4; have czn := Nat.ne_of_lt (Blk.lt hx4); have czm := Ne.symm czn; have czl := Blk.lt hx4)); (try (refine (have hy0 : Blk w2 (w1.heap.size) 32 #[.slice none 0 0, .bool false] := Blk.call ?_ hb2'; ?_); (focus ((repeat (first | (with_reducible exact hx3) | (with_reducible exact hx4) | (with_reducible exact hy0) | (with_reducible exact hy1) | (with_reducible refine Blk.drew ?_) | (refine Blk.newE ?_; (focus ((try simp); all_goals fail))) | (with_reducible refine Blk.alloc ?_ _))); all_goals fail)); obtain ⟨cy0, cy1, cy2, cy3⟩ := blkW2 hy0; have cyn := Nat.ne_of_lt (Blk.lt hy0); have cym := Ne.symm cyn; have cyl := Blk.lt hy0)); (try (refine (have hy1 : Blk w2 (w1.heap.size + 1) 32 #[.slice none 0 0, .bool false] := Blk.call ?_ hb2'; ?_); (focus ((repeat (first | (with_reducible exact hx3) | (with_reducible exact hx4) | (with_reducible exact hy0) | (with_reducible exact hy1) | (with_reducible refine Blk.drew ?_) | (refine Blk.newE ?_; (focus ((try simp); all_goals fail))) | (with_reducible refine Blk.alloc ?_ _))); all_goals fail)); obtain ⟨cu0, cu1, cu2, cu3⟩ := blkW2 hy1; have cun := Nat.ne_of_lt (Blk.lt hy1); have cum := Ne.symm cun; have cul := Blk.lt hy1))))
    all_goals (go_wp2_with fail; go_meet)
    all_goals refine ⟨_, _, z1, z2, rfl, rfl, ?_, ?_, ?_, (show Own w [(34, #[.slice p.n.A p.n.l p.n.c, .bool p.n.g, .slice p.d.A p.d.l p.d.c, .bool p.d.g]), (34, #[.slice q.n.A q.n.l q.n.c, .bool q.n.g, .slice q.d.A q.d.l q.d.c, .bool q.d.g]), (34, #[.slice none 0 0, .bool false, .slice none 0 0, .bool false])] _ from ?_), ?_, ?_, ?_, ?_⟩
    all_goals (repeat (first | (with_reducible exact hO2.out) | (with_reducible exact hz1.out) | (with_reducible exact hz2.out) | (with_reducible exact hx3) | (with_reducible exact hx4) | (with_reducible exact hy0) | (with_reducible exact hy1) | (with_reducible refine Own.drew ?_) | (with_reducible refine Own.more ?_ _) | (with_reducible refine Own.setB ?_ ?_ _ _) | (with_reducible refine WR.drew ?_) | (with_reducible refine WR.more ?_ _) | (with_reducible refine WR.setB ?_ ?_ _ _) | (with_reducible refine WR.belowH ?_ hb2') | (with_reducible refine Blk.drew ?_) | (with_reducible refine Blk.setZ ?_ _ _) | (with_reducible refine Blk.setO ?_ ?_ _ _) | (refine Blk.newE ?_; (focus ((try simp); all_goals fail))) | (with_reducible refine Blk.alloc ?_ _) | (focus (simp only [List.length_cons, List.length_nil]; omega)) | omega))
  case rest =>
    obtain ⟨ga, gb, za, zb, rfl, rfl, hga, hgb, hne, hO0, hBa0, hBb0, hza0, hzb0⟩ := hcut
    have hm2 : Hid (1 = 1) := rfl
    go_upto_region 2 with (fail)
    go_cut [16] from 11 to 16 (fun v16 wc => CutO w p q a.den b.den ga gb za zb v16 wc)
    case first =>
      obtain ⟨a0, a1, -, -⟩ := blkW2 hBa0
      obtain ⟨oa, hoa'⟩ : ∃ oa, oa = decide ((a.den : Int) = 1) := ⟨_, rfl⟩
      have ho := r_isOne za a.den wc hza0
      rw [← hoa'] at ho
      have hoa := Lib.hid hoa'
      clear hoa'
      go_wp2_with fail
      refine ho.mono ?_
      clear ho
      rintro e x1 ⟨rfl, hb⟩
      have hO1 := Lib.hid (hO0.out.call hb)
      have hBa1 := Blk.call hBa0 hb
      have hBb1 := Blk.call hBb0 hb
      have hza1 := hza0.belowH hb
      have hzb1 := hzb0.belowH hb
      clear hb a0 a1
      cases oa with
      | false =>
        go_wp2_with fail
        go_meet
        exact ⟨false, rfl, (fun h => by cases h), hO1, hBa1, hBb1, hza1, hzb1⟩
      | true =>
        obtain ⟨b0, b1, -, -⟩ := blkW2 hBb1
        obtain ⟨ob, hob'⟩ : ∃ ob, ob = decide ((b.den : Int) = 1) := ⟨_, rfl⟩
        have ho := r_isOne zb b.den x1 hzb1
        rw [← hob'] at ho
        have hob := Lib.hid hob'
        clear hob'
        go_wp2_with fail
        refine ho.mono ?_
        clear ho
        rintro e x2 ⟨rfl, hb⟩
        have hO2 := Lib.hid (hO1.out.call hb)
        have hBa2 := Blk.call hBa1 hb
        have hBb2 := Blk.call hBb1 hb
        have hza2 := hza1.belowH hb
        have hzb2 := hzb1.belowH hb
        have hboth : Hid (ob = true → (a.den : Int) = 1 ∧ (b.den : Int) = 1) := fun h => by
          have h1 := hoa.out
          have h2 := hob.out
          rw [h] at h2
          exact ⟨by simpa using h1.symm, by simpa using h2.symm⟩
        clear hb b0 b1
        go_wp2_with fail
        go_meet
        exact ⟨ob, rfl, hboth, hO2, hBa2, hBb2, hza2, hzb2⟩
    case rest =>
      obtain ⟨o, rfl, hone, hO0, hBa0, hBb0, hza0, hzb0⟩ := hcut
      have hS := keepAB (hO0.out.drew) (hBa0.drew) (hBb0.drew)
      cases o with
      | true =>
        obtain ⟨ha1, hb1⟩ := hone.out rfl
        have hres : ∀ (w' : World) (z : Wv), WR w' z (a.num * b.num) → WR w' za a.den → QW w' ⟨z, za⟩ (a * b) := fun w' z h1 h2 => by
          have h3 := int_mul a b (by omega) (by omega)
          exact ⟨by rw [h3.1]; exact h1, _, h2, .inl (by rw [h3.2, ha1]; rfl)⟩
        have hres := Lib.hid hres
        clear ha1 hb1 hone
        go_wp2_with fail
        go_region_held3 (fun w' => ((w'.cell? ⟨w.heap.size, 0, none⟩ = some (.slice p.n.A p.n.l p.n.c) ∧ w'.cell? ⟨w.heap.size, 1, none⟩ = some (.bool p.n.g) ∧ w'.cell? ⟨w.heap.size, 2, none⟩ = some (.slice p.d.A p.d.l p.d.c) ∧ w'.cell? ⟨w.heap.size, 3, none⟩ = some (.bool p.d.g)) ∧ (w'.cell? ⟨w.heap.size + 1, 0, none⟩ = some (.slice q.n.A q.n.l q.n.c) ∧ w'.cell? ⟨w.heap.size + 1, 1, none⟩ = some (.bool q.n.g) ∧ w'.cell? ⟨w.heap.size + 1, 2, none⟩ = some (.slice q.d.A q.d.l q.d.c) ∧ w'.cell? ⟨w.heap.size + 1, 3, none⟩ = some (.bool q.d.g))) ∧ (w'.cell? ⟨ga, 0, none⟩ = some (.slice za.A za.l za.c) ∧ w'.cell? ⟨ga, 1, none⟩ = some (.bool za.g)) ∧ (w'.cell? ⟨gb, 0, none⟩ = some (.slice zb.A zb.l zb.c) ∧ w'.cell? ⟨gb, 1, none⟩ = some (.bool zb.g)))
          (first | (with_reducible exact hS) | (with_reducible exact hT _ _ _ _))
          (first
            | (go_at_call 33; refine (r_mul p.n q.n a.num b.num _ (hO0.out.drew.qw hp).1 (hO0.out.drew.qw hq).1 s1.out s3.out).mono ?_; rintro e x1 ⟨z1, rfl, hx1, hb⟩; have hO1 := Lib.hid (hO0.out.drew.call hb); have hBa1 := Blk.call hBa0.drew hb; have hBb1 := Blk.call hBb0.drew hb; have hza1 := hza0.drew.belowH hb; have hzb1 := hzb0.drew.belowH hb; clear hS; have hS := keepAB (hO1.out) (hBa1) (hBb1); have hT := fun u1 u2 u3 u4 => keepABs hO1.out hBa1 hBb1 hga hgb u1 u2 u3 u4 rfl; obtain ⟨⟨e0, e1, e2, e3⟩, f0, f1, f2, f3⟩ := blkW4 hO1.out.b2; clear hb))
        go_wp2_with fail
        have hq1 := hres.out x1 z1 hx1 hza1
        refine bodyPost_ret (v := .agg #[.slice z1.A z1.l z1.c, .bool z1.g, .slice za.A za.l za.c, .bool za.g]) (by simp [results, Try.results26, go_sem, e0, e1, e2, e3, f0, f1, f2, f3]) rfl ⟨⟨z1, za⟩, rfl, hq1.set (NoW.w4 hO1.out.b2) (SetB.set4 _ _ _ _ _ _ _ _ _ _), hO1.out.setW4 2 _ _ _ _ _ _ _ _⟩
      | false =>
        clear hone
        go_wp2_with fail
        go_region_held3 (fun w' => ((w'.cell? ⟨w.heap.size, 0, none⟩ = some (.slice p.n.A p.n.l p.n.c) ∧ w'.cell? ⟨w.heap.size, 1, none⟩ = some (.bool p.n.g) ∧ w'.cell? ⟨w.heap.size, 2, none⟩ = some (.slice p.d.A p.d.l p.d.c) ∧ w'.cell? ⟨w.heap.size, 3, none⟩ = some (.bool p.d.g)) ∧ (w'.cell? ⟨w.heap.size + 1, 0, none⟩ = some (.slice q.n.A q.n.l q.n.c) ∧ w'.cell? ⟨w.heap.size + 1, 1, none⟩ = some (.bool q.n.g) ∧ w'.cell? ⟨w.heap.size + 1, 2, none⟩ = some (.slice q.d.A q.d.l q.d.c) ∧ w'.cell? ⟨w.heap.size + 1, 3, none⟩ = some (.bool q.d.g))) ∧ (w'.cell? ⟨ga, 0, none⟩ = some (.slice za.A za.l za.c) ∧ w'.cell? ⟨ga, 1, none⟩ = some (.bool za.g)) ∧ (w'.cell? ⟨gb, 0, none⟩ = some (.slice zb.A zb.l zb.c) ∧ w'.cell? ⟨gb, 1, none⟩ = some (.bool zb.g)))
          (first | (with_reducible exact hS) | (with_reducible exact hT _ _ _ _))
          (first
            | (have hz := hm1; go_at_call 33; clear hz hm1; refine (r_mul p.n q.n a.num b.num _ (hO0.out.drew.qw hp).1 (hO0.out.drew.qw hq).1 s1.out s3.out).mono ?_; rintro e x1 ⟨z1, rfl, hx1, hb⟩; have hO1 := Lib.hid (hO0.out.drew.call hb); have hBa1 := Blk.call hBa0.drew hb; have hBb1 := Blk.call hBb0.drew hb; have hza1 := hza0.drew.belowH hb; have hzb1 := hzb0.drew.belowH hb; clear hS; have hS := keepAB (hO1.out) (hBa1) (hBb1); clear hb)
            | (go_at_call 33; refine (r_mul za zb a.den b.den _ hza1 hzb1 s2.out s4.out).mono ?_; rintro e x2 ⟨z2, rfl, hx2, hb⟩; have hO2 := Lib.hid (hO1.out.call hb); have hBa2 := Blk.call hBa1 hb; have hBb2 := Blk.call hBb1 hb; have hza2 := hza1.belowH hb; have hzb2 := hzb1.belowH hb; have hx12 := hx1.belowH hb; clear hS; have hS := keepAB (hO2.out) (hBa2) (hBb2); clear hb)
            | (go_at_call 31; refine (r_ratio z1 z2 _ _ _ hx12 hx2 s5.out s8.out hpos.out).mono ?_; rintro e x3 ⟨z5, rfl, hx3, hb⟩; have hO3 := Lib.hid (hO2.out.call hb); have hBa3 := Blk.call hBa2 hb; have hBb3 := Blk.call hBb2 hb; have hza3 := hza2.belowH hb; have hzb3 := hzb2.belowH hb; clear hS; have hS := keepAB (hO3.out) (hBa3) (hBb3); have hT := fun u1 u2 u3 u4 => keepABs hO3.out hBa3 hBb3 hga hgb u1 u2 u3 u4 rfl; obtain ⟨⟨e0, e1, e2, e3⟩, f0, f1, f2, f3⟩ := blkW4 hO3.out.b2; clear hb))
        go_wp2_with fail
        rw [← hrat.out] at hx3
        refine bodyPost_ret (v := .agg #[.slice z5.n.A z5.n.l z5.n.c, .bool z5.n.g, .slice z5.d.A z5.d.l z5.d.c, .bool z5.d.g]) (by simp [results, Try.results26, go_sem, e0, e1, e2, e3, f0, f1, f2, f3]) rfl ⟨z5, rfl, hx3.set (NoW.w4 hO3.out.b2) (SetB.set4 _ _ _ _ _ _ _ _ _ _), hO3.out.setW4 2 _ _ _ _ _ _ _ _⟩

end Go.Proofs.Ytgoojlnfobjplaa

/- The reference: difference; which numbers are numbers. -/
namespace Go.Proofs.Ytgoojlnfobjplaa
open Go.RowKit
set_option linter.unusedSimpArgs false
set_option linter.unusedVariables false
attribute [local go_sem] qn30 qe30

set_option maxRecDepth 100000 in
set_option maxHeartbeats 8000000 in
theorem r_QSub (p q : Qw) (a b : Rat) (w : World) (j k : Nat) (hp : QW w p a) (hq : QW w q b) (ha : Sz j a) (hb0 : Sz k b) (hjk : j + k ≤ 9000000) :
    Calls Try.prog 25 #[.agg #[.slice p.n.A p.n.l p.n.c, .bool p.n.g, .slice p.d.A p.d.l p.d.c, .bool p.d.g], .agg #[.slice q.n.A q.n.l q.n.c, .bool q.n.g, .slice q.d.A q.d.l q.d.c, .bool q.d.g]] w (PF w (a - b)) := by
  have hu := Try.underlying32
  have hu2 := Try.underlying34
  have hO0 := Lib.hid (Own.three w 34 34 34 #[.slice p.n.A p.n.l p.n.c, .bool p.n.g, .slice p.d.A p.d.l p.d.c, .bool p.d.g] #[.slice q.n.A q.n.l q.n.c, .bool q.n.g, .slice q.d.A q.d.l q.d.c, .bool q.d.g] #[.slice none 0 0, .bool false, .slice none 0 0, .bool false])
  have hS := keep44 hO0.out.drew
  have s3 := Lib.hid (hb0.fn (by omega))
  have hsub := Lib.hid (Rat.sub_eq_add_neg a b)
  go_enter Try.func25, Try.ntmps25
  go_wp2_with fail
  go_region_held3 (fun w' => (w'.cell? ⟨w.heap.size, 0, none⟩ = some (.slice p.n.A p.n.l p.n.c) ∧ w'.cell? ⟨w.heap.size, 1, none⟩ = some (.bool p.n.g) ∧ w'.cell? ⟨w.heap.size, 2, none⟩ = some (.slice p.d.A p.d.l p.d.c) ∧ w'.cell? ⟨w.heap.size, 3, none⟩ = some (.bool p.d.g)) ∧ (w'.cell? ⟨w.heap.size + 1, 0, none⟩ = some (.slice q.n.A q.n.l q.n.c) ∧ w'.cell? ⟨w.heap.size + 1, 1, none⟩ = some (.bool q.n.g) ∧ w'.cell? ⟨w.heap.size + 1, 2, none⟩ = some (.slice q.d.A q.d.l q.d.c) ∧ w'.cell? ⟨w.heap.size + 1, 3, none⟩ = some (.bool q.d.g)))
    (first | (with_reducible exact hS) | (with_reducible exact hT _ _ _ _))
    (first
      | (go_at_call 53; refine (r_QNeg q b _ (hO0.out.drew.qw hq) s3.out).mono ?_; rintro e w1 ⟨z1, rfl, hz1, hb⟩; have hO1 := Lib.hid (hO0.out.drew.call hb); clear hS; have hS := keep44 hO1.out; clear hb)
      | (go_at_call 52; refine (r_QAdd p z1 a (-b) _ j k (hO1.out.qw hp) hz1 ha hb0.neg hjk).mono ?_; rintro e w5 ⟨z5, rfl, hz5, hb⟩; have hO5 := Lib.hid (hO1.out.call hb); clear hS; have hS := keep44 hO5.out; clear hb; have hT := fun u1 u2 u3 u4 => keep44s hO5.out (SetB.set4 w5 (w.heap.size + 1 + 1) 0 1 2 3 u1 u2 u3 u4); obtain ⟨⟨e0, e1, e2, e3⟩, f0, f1, f2, f3⟩ := blkW4 hO5.out.b2))
  go_wp2_with fail
  rw [← hsub.out] at hz5
  refine bodyPost_ret (v := .agg #[.slice z5.n.A z5.n.l z5.n.c, .bool z5.n.g, .slice z5.d.A z5.d.l z5.d.c, .bool z5.d.g]) (by simp [results, Try.results25, go_sem, e0, e1, e2, e3, f0, f1, f2, f3]) rfl ⟨z5, rfl, hz5.set (NoW.w4 hO5.out.b2) (SetB.set4 _ _ _ _ _ _ _ _ _ _), hO5.out.setW4 2 _ _ _ _ _ _ _ _⟩

set_option maxRecDepth 100000 in
set_option maxHeartbeats 4000000 in
theorem r_Is (N D : Int) (w : World) :
    Calls Try.prog 51 #[.agg #[.int .i64 N, .int .i64 D]] w fun e w' => e = .returned (.bool (decide (VR N D))) ∧ Below w.heap.size w w' := by
  have hu := Try.underlying24
  rcases Int.lt_or_le D 1 with hD1 | hD1
  · have hV : Hid (decide (VR N D) = false) := decide_eq_false (fun h => by unfold VR at h; omega)
    go_enter Try.func51, Try.ntmps51
    go_wp2_with fail
    go_ret
    exact ⟨by rw [hV.out]; rfl, (Below.refl _ _).alloc (Nat.le_refl _) _⟩
  · rcases Int.lt_or_le 1000000000000 D with hD2 | hD2
    · have hV : Hid (decide (VR N D) = false) := decide_eq_false (fun h => by unfold VR at h; omega)
      go_enter Try.func51, Try.ntmps51
      go_wp2_with fail
      go_ret
      exact ⟨by rw [hV.out]; rfl, (Below.refl _ _).alloc (Nat.le_refl _) _⟩
    · rcases Int.lt_or_le N (-1000000000000) with hN1 | hN1
      · have hV : Hid (decide (VR N D) = false) := decide_eq_false (fun h => by unfold VR at h; omega)
        go_enter Try.func51, Try.ntmps51
        go_wp2_with fail
        go_ret
        exact ⟨by rw [hV.out]; rfl, (Below.refl _ _).alloc (Nat.le_refl _) _⟩
      · rcases Int.lt_or_le 1000000000000 N with hN2 | hN2
        · have hV : Hid (decide (VR N D) = false) := decide_eq_false (fun h => by unfold VR at h; omega)
          go_enter Try.func51, Try.ntmps51
          go_wp2_with fail
          go_ret
          exact ⟨by rw [hV.out]; rfl, (Below.refl _ _).alloc (Nat.le_refl _) _⟩
        · obtain ⟨M, rfl⟩ : ∃ M : Nat, D = (M : Int) := ⟨D.toNat, by omega⟩
          have hO0 := Lib.hid (Own.one w 24 #[.int .i64 N, .int .i64 (M : Int)])
          have hV := Lib.hid (show VR N M ↔ Nat.gcd N.natAbs M = 1 by simp [VR, hD1, hD2, hN1, hN2]; rfl)
          have hM : M ≤ 1000000000000 := by omega
          have hNb : N.natAbs ≤ 1000000000000 := by omega
          go_enter Try.func51, Try.ntmps51
          go_wp2_with fail
          go_quiet (fail)
          have hO1 := Lib.hid (hO0.out.drewN nq)
          go_upto_if 28 with (fail)
          go_cut [3] from 29 to 30 (fun v3 wc => v3 = .int .i64 (N.natAbs : Int) ∧ Hid (Below w.heap.size w wc))
          case first =>
            by_cases hn : N < 0
            · have hw1 : IntKind.i64.wrap (-N) = -N := by rw [IntKind.wrap_i64]; omega
              have e : Hid (-N = (N.natAbs : Int)) := by show _ = _; omega
              go_wp2_with fail
              go_meet
              exact ⟨by rw [← e.out], hO1.out.1⟩
            · have e : Hid (N = (N.natAbs : Int)) := by show _ = _; omega
              go_wp2_with fail
              go_meet
              exact ⟨congrArg _ e.out, hO1.out.1⟩
          case rest =>
            obtain ⟨rfl, hB0⟩ := hcut
            obtain ⟨A0, hA0⟩ : ∃ A0, A0 = N.natAbs := ⟨_, rfl⟩
            rw [← hA0] at hV hNb ⊢
            clear hD1 hD2 hN1 hN2 hO0 hO1 hA0
            go_wp2_with fail
            go_loopw [3, 4] (fun v3 v4 wr => ∃ a b : Nat, v3 = .int .i64 (a : Int) ∧ v4 = .int .i64 (b : Int) ∧ a ≤ 1000000000000 ∧ b ≤ 1000000000000 ∧ Hid (Nat.gcd a b = Nat.gcd A0 M) ∧ Hid (Below w.heap.size w wr)) (fun _ v _ => (intOf v).natAbs)
            case atStart => exact ⟨A0, M, rfl, rfl, hNb, hM, rfl, hB0⟩
            case round =>
              clear hB0
              obtain ⟨a, b, rfl, rfl, ha, hb, hg, hB⟩ := hrel
              rcases Nat.eq_zero_or_pos b with h0 | h0
              · subst h0
                have hga := Lib.hid (show a = Nat.gcd A0 M by have := hg.out; simpa using this)
                by_cases h1 : a = 1
                · have d1 : ((a : Int) == 1) = true := by simp [h1]
                  have hV2 := Lib.hid (show decide (VR N M) = true from decide_eq_true (hV.out.2 (hga.out.symm.trans h1)))
                  clear h1
                  go_wp2_with fail
                  go_ret
                  exact ⟨by rw [hV2.out]; rfl, hB.out⟩
                · have d1 : ((a : Int) == 1) = false := by simp; omega
                  have hV2 := Lib.hid (show decide (VR N M) = false from decide_eq_false (fun h => h1 (hga.out.trans (hV.out.1 h))))
                  clear h1
                  go_wp2_with fail
                  go_ret
                  exact ⟨by rw [hV2.out]; rfl, hB.out⟩
              · have d1 : ((b : Int) == 0) = false := by simp; omega
                have d3 : (0 : Int) < (b : Int) := by omega
                have hmd := tmodN a b
                obtain ⟨r, hr'⟩ : ∃ r, r = a % b := ⟨_, rfl⟩
                have hrb : r < b := by rw [hr']; exact Nat.mod_lt _ h0
                rw [← hr'] at hmd
                have hgr : Hid (Nat.gcd b r = Nat.gcd A0 M) := by show _ = _; rw [hr', Nat.gcd_comm, ← Nat.gcd_rec, Nat.gcd_comm]; exact hg.out
                clear hr'
                go_wp2_with fail
                go_quiet (fail)
                go_wp2_with fail
                go_roundw
                case rel => exact ⟨b, r, rfl, rfl, hb, by omega, hgr, Lib.hid (bdN hB.out _)⟩
                case measure => simp [intOf]; omega

set_option maxRecDepth 100000 in
set_option maxHeartbeats 4000000 in
theorem r_Are (A : Option Addr) (n c : Nat) (xs : List (Int × Int)) (w : World) (hr : Rats w A n c xs) :
    Calls Try.prog 24 #[.slice A n c] w fun e w' => e = .returned (.bool (decide (AllVR xs))) ∧ Below w.heap.size w w' := by
  have hu := Try.underlying24
  have hn : n ≤ 4611686018427387904 := Nat.le_trans hr.2.1 hr.2.2.1
  have hlen := Lib.hid hr.1
  go_enter Try.func24, Try.ntmps24
  go_wp2_with fail
  go_loopw [3] (fun v3 wr => ∃ k : Nat, k ≤ n ∧ v3 = .int .i64 k ∧ Hid (AllVR (xs.take k)) ∧ Hid (Below w.heap.size w wr)) (fun v _ => n - (intOf v).toNat)
  case atStart => exact ⟨0, Nat.zero_le _, rfl, (by show AllVR _; simp [AllVR]), Below.refl _ _⟩
  case round =>
    obtain ⟨k, hk, rfl, hv, hB⟩ := hrel
    by_cases hlt : k < n
    · obtain ⟨g, o, x, rfl, hg, hxk', -, -, hc0, hc1⟩ := (hr.below hB.out (Nat.le_refl _)).cell hlt
      have hxk := Lib.hid hxk'
      clear hxk'
      go_wp2_with fail
      refine (r_Is x.1 x.2 _).mono ?_
      rintro e w1 ⟨rfl, hb1⟩
      have hB1 := Lib.hid (hB.out.trans (hb1.mono hB.out.size))
      clear hb1
      by_cases hx : VR x.1 x.2
      · have hd : decide (VR x.1 x.2) = true := by simpa using hx
        have hx := Lib.hid hx
        go_wp2_with fail
        go_roundw
        case rel => exact ⟨k + 1, by omega, by go_num, allvr_step hxk.out hv hx.out, hB1⟩
        case measure => simp [intOf]; omega
      · have hd : decide (VR x.1 x.2) = false := by simpa using hx
        have hV := Lib.hid (show decide (AllVR xs) = false from decide_eq_false (fun h => hx (h x (List.mem_of_getElem? hxk.out))))
        clear hx
        go_wp2_with fail
        go_ret
        exact ⟨by rw [hV.out]; rfl, hB1.out⟩
    · have hV := Lib.hid (show decide (AllVR xs) = true from decide_eq_true (by have h1 := hv.out; have h2 := hlen.out; rwa [List.take_of_length_le (by omega)] at h1))
      have : k = n := by omega
      subst this
      go_wp2_with fail
      go_ret
      exact ⟨by rw [hV.out]; rfl, hB.out⟩

end Go.Proofs.Ytgoojlnfobjplaa
