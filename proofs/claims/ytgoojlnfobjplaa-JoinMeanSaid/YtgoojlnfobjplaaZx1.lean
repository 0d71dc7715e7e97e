/- The value of a stream in a junction: what is to be computed. -/
import Derived.Test.YtgoojlnfobjplaaZv3
namespace Go.Proofs.Ytgoojlnfobjplaa
open Go.RowKit
set_option linter.unusedSimpArgs false
set_option linter.unusedVariables false

/-- the sum of the flows in, each with its value -/
def mixS (l : List ((Int × Int) × (Int × Int))) : Rat := l.foldl (fun s p => if p.1.1 < 0 then s + (-ratOf p.1) * ratOf p.2 else s) 0
/-- the sum of the flows in -/
def mixB (l : List ((Int × Int) × (Int × Int))) : Rat := l.foldl (fun s p => if p.1.1 < 0 then s + (-ratOf p.1) else s) 0

theorem mixS_snoc (l : List ((Int × Int) × (Int × Int))) (p : (Int × Int) × (Int × Int)) : mixS (l ++ [p]) = if p.1.1 < 0 then mixS l + (-ratOf p.1) * ratOf p.2 else mixS l := by simp [mixS]
theorem mixB_snoc (l : List ((Int × Int) × (Int × Int))) (p : (Int × Int) × (Int × Int)) : mixB (l ++ [p]) = if p.1.1 < 0 then mixB l + (-ratOf p.1) else mixB l := by simp [mixB]

theorem Sz.zero : Sz 1 0 := ⟨by decide, by decide⟩

theorem zip_take {xs ys : List (Int × Int)} {k : Nat} {x y : Int × Int} (hx : xs[k]? = some x) (hy : ys[k]? = some y) : (xs.zip ys).take (k + 1) = (xs.zip ys).take k ++ [(x, y)] := by
  rw [List.take_add_one]
  have : (xs.zip ys)[k]? = some (x, y) := by rw [List.getElem?_zip_eq_some]; exact ⟨hx, hy⟩
  rw [this]
  rfl

/-- the whole answer -/
def mixed (xs ys : List (Int × Int)) : (Int × Int) × Bool × Int :=
  if ¬ (AllVR xs ∧ AllVR ys) then ((0, 0), false, 1)
  else if 64 < xs.length ∨ 64 < ys.length then ((0, 0), false, 3)
  else if xs.length ≠ ys.length then ((0, 0), false, 8)
  else if mixB (xs.zip ys) = 0 then ((0, 0), false, 0)
  else if -1000000000000 ≤ (mixS (xs.zip ys) / mixB (xs.zip ys)).num ∧ (mixS (xs.zip ys) / mixB (xs.zip ys)).num ≤ 1000000000000 ∧ ((mixS (xs.zip ys) / mixB (xs.zip ys)).den : Int) ≤ 1000000000000 then (((mixS (xs.zip ys) / mixB (xs.zip ys)).num, ((mixS (xs.zip ys) / mixB (xs.zip ys)).den : Int)), true, 0)
  else ((0, 0), false, 3)

def PMix (w : World) (r : (Int × Int) × Bool × Int) (e : Ending) (w' : World) : Prop :=
  e = .returned (.tuple #[.agg #[.int .i64 r.1.1, .int .i64 r.1.2], .bool r.2.1, .int .i64 r.2.2]) ∧ Below w.heap.size w w'

theorem szS {l : List ((Int × Int) × (Int × Int))} {k : Nat} {p : (Int × Int) × (Int × Int)} (h : Sz (81 * k + 1) (mixS l)) (h1 : VR p.1.1 p.1.2) (h2 : VR p.2.1 p.2.2) : Sz (81 * (k + 1) + 1) (mixS (l ++ [p])) := by
  rw [mixS_snoc]
  split
  · exact (h.add ((ratOf_sz h1).neg.mul (ratOf_sz h2))).mono (by omega)
  · exact h.mono (by omega)
theorem szB {l : List ((Int × Int) × (Int × Int))} {k : Nat} {p : (Int × Int) × (Int × Int)} (h : Sz (81 * k + 1) (mixB l)) (h1 : VR p.1.1 p.1.2) : Sz (81 * (k + 1) + 1) (mixB (l ++ [p])) := by
  rw [mixB_snoc]
  split
  · exact (h.add (ratOf_sz h1).neg).mono (by omega)
  · exact h.mono (by omega)

/-- the state in a round: the two sums, the flow, the values -/
def St (w2 : World) (qa qb wq : Qv) (g11 : Nat) (A : Option Addr) (n c : Nat) (ys : List (Int × Int)) (wr : World) : Prop :=
  Own w2 [(47, #[.int .i64 qa.n.x, .slice qa.n.A qa.n.l qa.n.c, .bool qa.n.g, .int .i64 qa.d.x, .slice qa.d.A qa.d.l qa.d.c, .bool qa.d.g]), (47, #[.int .i64 qb.n.x, .slice qb.n.A qb.n.l qb.n.c, .bool qb.n.g, .int .i64 qb.d.x, .slice qb.d.A qb.d.l qb.d.c, .bool qb.d.g])] wr ∧ Blk wr g11 47 #[.int .i64 wq.n.x, .slice wq.n.A wq.n.l wq.n.c, .bool wq.n.g, .int .i64 wq.d.x, .slice wq.d.A wq.d.l wq.d.c, .bool wq.d.g] ∧ Rats wr A n c ys
theorem QR.drew {w : World} {q : Qv} {a : Rat} (h : QR w q a) : QR w.drew q a := ⟨h.1.drew, h.2.drew⟩
theorem St.call {w2 : World} {qa qb wq : Qv} {g11 : Nat} {A n c ys} {wr wr' : World} (h : St w2 qa qb wq g11 A n c ys wr) (hb : Below wr.heap.size wr wr') : St w2 qa qb wq g11 A n c ys wr' :=
  ⟨h.1.call hb, h.2.1.below hb h.2.1.lt, h.2.2.below hb (Nat.le_refl _)⟩
theorem Rats.drew {w : World} {A n c xs} (h : Rats w A n c xs) : Rats w.drew A n c xs := h
theorem St.drew {w2 : World} {qa qb wq : Qv} {g11 : Nat} {A n c ys} {wr : World} (h : St w2 qa qb wq g11 A n c ys wr) : St w2 qa qb wq g11 A n c ys wr.drew :=
  ⟨h.1.drew, h.2.1.drew, h.2.2.drew⟩
theorem St.cells {w2 : World} {qa qb wq : Qv} {g11 : Nat} {n c ys} {wr : World} {gy oy k : Nat} {y : Int × Int} (h : St w2 qa qb wq g11 (some ⟨gy, oy, none⟩) n c ys wr) (hy : Hid (ys[k]? = some y)) : wr.cell? ⟨g11, 0, none⟩ = some (.int .i64 wq.n.x) ∧ wr.cell? ⟨g11, 1, none⟩ = some (.slice wq.n.A wq.n.l wq.n.c) ∧ wr.cell? ⟨g11, 2, none⟩ = some (.bool wq.n.g) ∧ wr.cell? ⟨g11, 3, none⟩ = some (.int .i64 wq.d.x) ∧ wr.cell? ⟨g11, 4, none⟩ = some (.slice wq.d.A wq.d.l wq.d.c) ∧ wr.cell? ⟨g11, 5, none⟩ = some (.bool wq.d.g) ∧ wr.cell? ⟨gy, oy + k * 2, none⟩ = some (.int .i64 y.1) ∧ wr.cell? ⟨gy, oy + k * 2 + 1, none⟩ = some (.int .i64 y.2) := by
  obtain ⟨h1, h2, h3⟩ := h
  obtain ⟨g, o, x, e, hg, hx, -, -, c0, c1⟩ := h3.cell (k := k) (by have := (List.getElem?_eq_some_iff.1 hy.out).1; have := h3.1; omega)
  injection e with e
  injection e with e1 e2
  subst e1 e2
  rw [hy.out] at hx
  injection hx with hx
  subst hx
  exact ⟨h2.cell 0, h2.cell 1, h2.cell 2, h2.cell 3, h2.cell 4, h2.cell 5, c0, c1⟩
theorem St.cellsS {wq : Qv} {g11 : Nat} {wr wr' : World} {gy oy k : Nat} {y : Int × Int} {g : Nat} (h : wr.cell? ⟨g11, 0, none⟩ = some (.int .i64 wq.n.x) ∧ wr.cell? ⟨g11, 1, none⟩ = some (.slice wq.n.A wq.n.l wq.n.c) ∧ wr.cell? ⟨g11, 2, none⟩ = some (.bool wq.n.g) ∧ wr.cell? ⟨g11, 3, none⟩ = some (.int .i64 wq.d.x) ∧ wr.cell? ⟨g11, 4, none⟩ = some (.slice wq.d.A wq.d.l wq.d.c) ∧ wr.cell? ⟨g11, 5, none⟩ = some (.bool wq.d.g) ∧ wr.cell? ⟨gy, oy + k * 2, none⟩ = some (.int .i64 y.1) ∧ wr.cell? ⟨gy, oy + k * 2 + 1, none⟩ = some (.int .i64 y.2)) (hs : SetB g wr wr') (n1 : g11 ≠ g) (n2 : gy ≠ g) : wr'.cell? ⟨g11, 0, none⟩ = some (.int .i64 wq.n.x) ∧ wr'.cell? ⟨g11, 1, none⟩ = some (.slice wq.n.A wq.n.l wq.n.c) ∧ wr'.cell? ⟨g11, 2, none⟩ = some (.bool wq.n.g) ∧ wr'.cell? ⟨g11, 3, none⟩ = some (.int .i64 wq.d.x) ∧ wr'.cell? ⟨g11, 4, none⟩ = some (.slice wq.d.A wq.d.l wq.d.c) ∧ wr'.cell? ⟨g11, 5, none⟩ = some (.bool wq.d.g) ∧ wr'.cell? ⟨gy, oy + k * 2, none⟩ = some (.int .i64 y.1) ∧ wr'.cell? ⟨gy, oy + k * 2 + 1, none⟩ = some (.int .i64 y.2) := by
  have k1 : ∀ i, wr'.cell? ⟨g11, i, none⟩ = wr.cell? ⟨g11, i, none⟩ := fun i => hs.2 ⟨g11, i, none⟩ n1
  have k2 : ∀ i, wr'.cell? ⟨gy, i, none⟩ = wr.cell? ⟨gy, i, none⟩ := fun i => hs.2 ⟨gy, i, none⟩ n2
  rw [k1 0, k1 1, k1 2, k1 3, k1 4, k1 5, k2, k2]
  exact h

theorem Blk.set6 {w : World} {g : Nat} {t : TypeId} {a b c d e f : Value} (h : Blk w g t #[a, b, c, d, e, f]) (u1 u2 u3 u4 u5 u6 : Value) : Blk ((((((w.setCell ⟨g, 0, none⟩ u1).setCell ⟨g, 1, none⟩ u2).setCell ⟨g, 2, none⟩ u3).setCell ⟨g, 3, none⟩ u4).setCell ⟨g, 4, none⟩ u5).setCell ⟨g, 5, none⟩ u6) g t #[u1, u2, u3, u4, u5, u6] := by
  unfold Blk at h ⊢
  simp [World.setCell, Array.getElem?_modify, h]

theorem Own.upd {w w1 w2 : World} {bs : List (TypeId × Array Value)} (h : Own w bs w1) (i : Nat) (t : TypeId) (cs : Array Value) (hi : i < bs.length) (hb : Below w.heap.size w w2) (hz : w1.heap.size ≤ w2.heap.size)
    (hf : ∀ g, g ≠ w.heap.size + i → w2.heap[g]? = w1.heap[g]?) (hB : Blk w2 (w.heap.size + i) t cs) : Own w (bs.set i (t, cs)) w2 := by
  refine ⟨hb, by rw [List.length_set]; exact Nat.le_trans h.2.1 hz, fun j t' cs' hj => ?_⟩
  by_cases e : i = j
  · subst e
    rw [List.getElem?_set_self hi] at hj
    injection hj with hj
    injection hj with h1 h2
    subst h1 h2
    exact hB
  · rw [List.getElem?_set_ne e] at hj
    exact (hf _ (by omega)).trans (h.2.2 j t' cs' hj)

theorem heap_set6 (w : World) (g : Nat) (u1 u2 u3 u4 u5 u6 : Value) (k : Nat) (hk : k ≠ g) : ((((((w.setCell ⟨g, 0, none⟩ u1).setCell ⟨g, 1, none⟩ u2).setCell ⟨g, 2, none⟩ u3).setCell ⟨g, 3, none⟩ u4).setCell ⟨g, 4, none⟩ u5).setCell ⟨g, 5, none⟩ u6).heap[k]? = w.heap[k]? :=
  (Below.heap_setCell _ ⟨g, 5, none⟩ u6 k hk).trans ((Below.heap_setCell _ ⟨g, 4, none⟩ u5 k hk).trans ((Below.heap_setCell _ ⟨g, 3, none⟩ u4 k hk).trans ((Below.heap_setCell _ ⟨g, 2, none⟩ u3 k hk).trans ((Below.heap_setCell _ ⟨g, 1, none⟩ u2 k hk).trans (Below.heap_setCell _ ⟨g, 0, none⟩ u1 k hk)))))

theorem Own.put6 {w w1 : World} {bs : List (TypeId × Array Value)} (h : Own w bs w1) (i : Nat) {t : TypeId} {a b c d e f : Value} (hi : bs[i]? = some (t, #[a, b, c, d, e, f])) (u1 u2 u3 u4 u5 u6 : Value) :
    Own w (bs.set i (t, #[u1, u2, u3, u4, u5, u6])) ((((((w1.setCell ⟨w.heap.size + i, 0, none⟩ u1).setCell ⟨w.heap.size + i, 1, none⟩ u2).setCell ⟨w.heap.size + i, 2, none⟩ u3).setCell ⟨w.heap.size + i, 3, none⟩ u4).setCell ⟨w.heap.size + i, 4, none⟩ u5).setCell ⟨w.heap.size + i, 5, none⟩ u6) :=
  h.upd i t _ (List.getElem?_eq_some_iff.1 hi).1 (h.set6 i 0 1 2 3 4 5 u1 u2 u3 u4 u5 u6) (SetB.set6 w1 (w.heap.size + i) 0 1 2 3 4 5 u1 u2 u3 u4 u5 u6).1 (heap_set6 _ _ _ _ _ _ _ _) (Blk.set6 (h.2.2 i t _ hi) u1 u2 u3 u4 u5 u6)

theorem twoput6 {w w2 : World} {qa qb qs qt : Qv} {t : TypeId} {r} {a b : Rat} (hO : Own w ((t, #[.int .i64 qa.n.x, .slice qa.n.A qa.n.l qa.n.c, .bool qa.n.g, .int .i64 qa.d.x, .slice qa.d.A qa.d.l qa.d.c, .bool qa.d.g]) :: (t, #[.int .i64 qb.n.x, .slice qb.n.A qb.n.l qb.n.c, .bool qb.n.g, .int .i64 qb.d.x, .slice qb.d.A qb.d.l qb.d.c, .bool qb.d.g]) :: r) w2) (h1 : QR w2 qs a) (h2 : QR w2 qt b) {w' : World}
    (hw : w' = ((((((((((((((w2.setCell ⟨w.heap.size, 0, none⟩ (.int .i64 qs.n.x)).setCell ⟨w.heap.size, 1, none⟩ (.slice qs.n.A qs.n.l qs.n.c)).setCell ⟨w.heap.size, 2, none⟩ (.bool qs.n.g)).setCell ⟨w.heap.size, 3, none⟩ (.int .i64 qs.d.x)).setCell ⟨w.heap.size, 4, none⟩ (.slice qs.d.A qs.d.l qs.d.c)).setCell ⟨w.heap.size, 5, none⟩ (.bool qs.d.g))).setCell ⟨w.heap.size + 1, 0, none⟩ (.int .i64 qt.n.x)).setCell ⟨w.heap.size + 1, 1, none⟩ (.slice qt.n.A qt.n.l qt.n.c)).setCell ⟨w.heap.size + 1, 2, none⟩ (.bool qt.n.g)).setCell ⟨w.heap.size + 1, 3, none⟩ (.int .i64 qt.d.x)).setCell ⟨w.heap.size + 1, 4, none⟩ (.slice qt.d.A qt.d.l qt.d.c)).setCell ⟨w.heap.size + 1, 5, none⟩ (.bool qt.d.g)))) :
    Own w ((t, #[.int .i64 qs.n.x, .slice qs.n.A qs.n.l qs.n.c, .bool qs.n.g, .int .i64 qs.d.x, .slice qs.d.A qs.d.l qs.d.c, .bool qs.d.g]) :: (t, #[.int .i64 qt.n.x, .slice qt.n.A qt.n.l qt.n.c, .bool qt.n.g, .int .i64 qt.d.x, .slice qt.d.A qt.d.l qt.d.c, .bool qt.d.g]) :: r) w' ∧ QR w' qs a ∧ QR w' qt b := by
  subst hw
  have p1 := hO.put6 0 rfl (.int .i64 qs.n.x) (.slice qs.n.A qs.n.l qs.n.c) (.bool qs.n.g) (.int .i64 qs.d.x) (.slice qs.d.A qs.d.l qs.d.c) (.bool qs.d.g)
  have s1 := SetB.set6 w2 w.heap.size 0 1 2 3 4 5 (.int .i64 qs.n.x) (.slice qs.n.A qs.n.l qs.n.c) (.bool qs.n.g) (.int .i64 qs.d.x) (.slice qs.d.A qs.d.l qs.d.c) (.bool qs.d.g)
  have n1 : NoW w2 w.heap.size := NoW.q hO.b0
  have h1' := h1.set n1 s1
  have h2' := h2.set n1 s1
  rw [Nat.add_zero] at p1
  generalize (((((((w2.setCell ⟨w.heap.size, 0, none⟩ (.int .i64 qs.n.x)).setCell ⟨w.heap.size, 1, none⟩ (.slice qs.n.A qs.n.l qs.n.c)).setCell ⟨w.heap.size, 2, none⟩ (.bool qs.n.g)).setCell ⟨w.heap.size, 3, none⟩ (.int .i64 qs.d.x)).setCell ⟨w.heap.size, 4, none⟩ (.slice qs.d.A qs.d.l qs.d.c)).setCell ⟨w.heap.size, 5, none⟩ (.bool qs.d.g))) = w3 at *
  have p2 := p1.put6 1 rfl (.int .i64 qt.n.x) (.slice qt.n.A qt.n.l qt.n.c) (.bool qt.n.g) (.int .i64 qt.d.x) (.slice qt.d.A qt.d.l qt.d.c) (.bool qt.d.g)
  have s2 := SetB.set6 w3 (w.heap.size + 1) 0 1 2 3 4 5 (.int .i64 qt.n.x) (.slice qt.n.A qt.n.l qt.n.c) (.bool qt.n.g) (.int .i64 qt.d.x) (.slice qt.d.A qt.d.l qt.d.c) (.bool qt.d.g)
  have n2 : NoW w3 (w.heap.size + 1) := NoW.q p1.b1
  exact ⟨p2, h1'.set n2 s2, h2'.set n2 s2⟩

end Go.Proofs.Ytgoojlnfobjplaa
