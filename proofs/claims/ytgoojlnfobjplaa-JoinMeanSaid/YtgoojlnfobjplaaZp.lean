/- The blocks that a call has made for itself (its boxes, its result): they stay behind calls that leave what was there. -/
import Derived.Test.YtgoojlnfobjplaaZo
namespace Go.Proofs.Ytgoojlnfobjplaa
open Go.RowKit
set_option linter.unusedSimpArgs false
set_option linter.unusedVariables false

/-- below the world w the call has changed nothing; its own blocks, from w's end on, are bs -/
def Own (w : World) (bs : List (TypeId × Array Value)) (w1 : World) : Prop :=
  Below w.heap.size w w1 ∧ w.heap.size + bs.length ≤ w1.heap.size ∧ ∀ i t cs, bs[i]? = some (t, cs) → Blk w1 (w.heap.size + i) t cs

section
variable {w w1 w2 : World} {bs : List (TypeId × Array Value)}
theorem Own.nil (w : World) : Own w [] w := ⟨Below.refl _ _, Nat.le_refl _, fun i t cs h => by simp at h⟩
theorem Own.drew (h : Own w bs w1) : Own w bs w1.drew := ⟨h.1.drew, h.2.1, fun i t cs hi => (h.2.2 i t cs hi).drew⟩
theorem Own.drewN (h : Own w bs w1) (n : Nat) : Own w bs (w1.drewN n) := ⟨bdN h.1 n, h.2.1, fun i t cs hi => (h.2.2 i t cs hi).drewN n⟩
theorem Own.call (h : Own w bs w1) (hb : Below w1.heap.size w1 w2) : Own w bs w2 :=
  ⟨h.1.trans (hb.mono (by have := h.2.1; omega)), Nat.le_trans h.2.1 hb.size, fun i t cs hi => (h.2.2 i t cs hi).below hb (h.2.2 i t cs hi).lt⟩
theorem Own.alloc (h : Own w bs w1) (hs : w1.heap.size = w.heap.size + bs.length) (t : TypeId) (cs : Array Value) : Own w (bs ++ [(t, cs)]) (w1.alloc (.cells cs t)) := by
  refine ⟨h.1.alloc (by omega) _, by simp; omega, fun i t' cs' hi => ?_⟩
  rcases Nat.lt_or_ge i bs.length with hlt | hge
  · rw [List.getElem?_append_left hlt] at hi
    exact (h.2.2 i t' cs' hi).alloc _
  · rw [List.getElem?_append_right hge] at hi
    have : i = bs.length := by
      have := (List.getElem?_eq_some_iff.1 hi).1
      simp at this
      omega
    subst this
    simp at hi
    obtain ⟨rfl, rfl⟩ := hi
    rw [← hs]
    exact Blk.new _ _ _
theorem Own.more (h : Own w bs w1) (o : Obj) : Own w bs (w1.alloc o) := h.call ((Below.refl _ _).alloc (Nat.le_refl _) _)
theorem Own.one (w : World) (t : TypeId) (cs : Array Value) : Own w [(t, cs)] (w.alloc (.cells cs t)) := (Own.nil w).alloc rfl t cs
theorem Own.two (w : World) (t t' : TypeId) (cs cs' : Array Value) : Own w [(t, cs), (t', cs')] ((w.alloc (.cells cs t)).alloc (.cells cs' t')) := (Own.one w t cs).alloc (by simp) t' cs'
theorem Own.three (w : World) (t t' t'' : TypeId) (cs cs' cs'' : Array Value) : Own w [(t, cs), (t', cs'), (t'', cs'')] (((w.alloc (.cells cs t)).alloc (.cells cs' t')).alloc (.cells cs'' t'')) := (Own.two w t t' cs cs').alloc (by simp) t'' cs''
theorem Own.blk (h : Own w bs w1) (i : Nat) {t : TypeId} {cs : Array Value} (hi : bs[i]? = some (t, cs)) : Blk w1 (w.heap.size + i) t cs := h.2.2 i t cs hi
theorem Own.b0 {t : TypeId} {cs : Array Value} {r : List (TypeId × Array Value)} (h : Own w ((t, cs) :: r) w1) : Blk w1 w.heap.size t cs := h.2.2 0 t cs rfl
theorem Own.b1 {x : TypeId × Array Value} {t : TypeId} {cs : Array Value} {r : List (TypeId × Array Value)} (h : Own w (x :: (t, cs) :: r) w1) : Blk w1 (w.heap.size + 1) t cs := h.2.2 1 t cs rfl
theorem Own.b2 {x y : TypeId × Array Value} {t : TypeId} {cs : Array Value} {r : List (TypeId × Array Value)} (h : Own w (x :: y :: (t, cs) :: r) w1) : Blk w1 (w.heap.size + 2) t cs := h.2.2 2 t cs rfl
theorem Own.zr {z n} (h : Own w bs w1) (hz : ZR w z n) : ZR w1 z n := hz.below h.1 (Nat.le_refl _)
theorem Own.qr {q r} (h : Own w bs w1) (hz : QR w q r) : QR w1 q r := hz.below h.1 (Nat.le_refl _)
/-- the result's block is written, then the call returns -/
theorem Own.set3 (h : Own w bs w1) (i a b c : Nat) (u v x : Value) : Below w.heap.size w (((w1.setCell ⟨w.heap.size + i, a, none⟩ u).setCell ⟨w.heap.size + i, b, none⟩ v).setCell ⟨w.heap.size + i, c, none⟩ x) :=
  ((h.1.setCell (p := ⟨w.heap.size + i, a, none⟩) (Nat.le_add_right _ _) _).setCell (p := ⟨w.heap.size + i, b, none⟩) (Nat.le_add_right _ _) _).setCell (p := ⟨w.heap.size + i, c, none⟩) (Nat.le_add_right _ _) _
end

/-- cells and marks of a block of three -/
theorem cells3 {w : World} {g : Nat} {t : TypeId} {a b c : Value} (h : Blk w g t #[a, b, c]) : w.cell? ⟨g, 0, none⟩ = some a ∧ w.cell? ⟨g, 1, none⟩ = some b ∧ w.cell? ⟨g, 2, none⟩ = some c := ⟨h.cell 0, h.cell 1, h.cell 2⟩

end Go.Proofs.Ytgoojlnfobjplaa
