/- Four slices that are made in any order, stepped once each. Printed by gen_se.py. -/
import Derived.Test.YtjbhnfejpgjghaaSa
namespace Go.Proofs.Ytjbhnfejpgjghaa
open Go.RowKit
set_option linter.unusedSimpArgs false
set_option linter.unusedVariables false

theorem raw_same {w w' : World} {g n : Nat} {e : TypeId} {xs : List Value} (h : w.ownsRow g e 1 (.slice (some ⟨g, 0, none⟩) n n) n xs) (e' : w'.heap[g]? = w.heap[g]?) : w'.ownsRow g e 1 (.slice (some ⟨g, 0, none⟩) n n) n xs := by
  obtain ⟨h1, h2⟩ := h
  refine ⟨h1, ?_⟩
  rcases h2 with ⟨q, -⟩ | ⟨g', cap, cur, q, h3, h4, h5⟩
  · cases q
  · have e2 : g = g' := by injection q with q _ _; injection q with q; injection q
    exact .inr ⟨g', cap, cur, q, h3, by rw [← e2, e', e2]; exact h4, h5⟩
theorem raw_lt {w : World} {g n : Nat} {e : TypeId} {xs : List Value} (h : w.ownsRow g e 1 (.slice (some ⟨g, 0, none⟩) n n) n xs) : g < w.heap.size := (World.ownsRow.lt h g rfl).2

structure M4 (e0 e1 e2 e3 : TypeId) (z0 z1 z2 z3 : Value) (n0 n1 n2 n3 : Nat) (W : World) (b0 b1 b2 b3 : Bool) (v0 v1 v2 v3 : Value) (g0 g1 g2 g3 : Nat) (w : World) : Prop where
  lo : Below W.heap.size W w
  m0 : b0 = true → v0 = .slice (some ⟨g0, 0, none⟩) n0 n0 ∧ W.heap.size ≤ g0 ∧ w.ownsRow g0 e0 1 (.slice (some ⟨g0, 0, none⟩) n0 n0) n0 (madeCells z0.cells (n0 * 1)).toList
  m1 : b1 = true → v1 = .slice (some ⟨g1, 0, none⟩) n1 n1 ∧ W.heap.size ≤ g1 ∧ w.ownsRow g1 e1 1 (.slice (some ⟨g1, 0, none⟩) n1 n1) n1 (madeCells z1.cells (n1 * 1)).toList
  m2 : b2 = true → v2 = .slice (some ⟨g2, 0, none⟩) n2 n2 ∧ W.heap.size ≤ g2 ∧ w.ownsRow g2 e2 1 (.slice (some ⟨g2, 0, none⟩) n2 n2) n2 (madeCells z2.cells (n2 * 1)).toList
  m3 : b3 = true → v3 = .slice (some ⟨g3, 0, none⟩) n3 n3 ∧ W.heap.size ≤ g3 ∧ w.ownsRow g3 e3 1 (.slice (some ⟨g3, 0, none⟩) n3 n3) n3 (madeCells z3.cells (n3 * 1)).toList
  d01 : b0 = true → b1 = true → g0 ≠ g1
  d02 : b0 = true → b2 = true → g0 ≠ g2
  d03 : b0 = true → b3 = true → g0 ≠ g3
  d12 : b1 = true → b2 = true → g1 ≠ g2
  d13 : b1 = true → b3 = true → g1 ≠ g3
  d23 : b2 = true → b3 = true → g2 ≠ g3

section
variable {P : Program} {ops : Array Oper} {Q : Exit → Act → World → Prop} {md : Region.Mode} {S : World → Prop}
set_option maxHeartbeats 2000000 in
theorem AnyK.makes4 {i0 i1 i2 i3 : Nat} {o0 o1 o2 o3 : Oper} {l0 l1 l2 l3 : Operand} {t0 e0 t1 e1 t2 e2 t3 e3 : TypeId} {y0 y1 y2 y3 : TypeInfo} {z0 z1 z2 z3 : Value} {n0 n1 n2 n3 : Nat}
    (ho0 : ops[i0]? = some o0) (ho1 : ops[i1]? = some o1) (ho2 : ops[i2]? = some o2) (ho3 : ops[i3]? = some o3)
    (hg0 : o0.guard = none) (hg1 : o1.guard = none) (hg2 : o2.guard = none) (hg3 : o3.guard = none)
    (hp0 : o0.op = Op.makeSlice t0 l0 l0) (hp1 : o1.op = Op.makeSlice t1 l1 l1) (hp2 : o2.op = Op.makeSlice t2 l2 l2) (hp3 : o3.op = Op.makeSlice t3 l3 l3)
    (ht0 : P.underlying t0 = some (.slice e0)) (hy0 : P.info? e0 = some y0) (hz0 : y0.zero = some z0) (hs0 : y0.size = 1) (hb0 : y0.bytes * n0 ≤ 281474976710656) (hn0 : n0 ≤ maxLen)
    (ht1 : P.underlying t1 = some (.slice e1)) (hy1 : P.info? e1 = some y1) (hz1 : y1.zero = some z1) (hs1 : y1.size = 1) (hb1 : y1.bytes * n1 ≤ 281474976710656) (hn1 : n1 ≤ maxLen)
    (ht2 : P.underlying t2 = some (.slice e2)) (hy2 : P.info? e2 = some y2) (hz2 : y2.zero = some z2) (hs2 : y2.size = 1) (hb2 : y2.bytes * n2 ≤ 281474976710656) (hn2 : n2 ≤ maxLen)
    (ht3 : P.underlying t3 = some (.slice e3)) (hy3 : P.info? e3 = some y3) (hz3 : y3.zero = some z3) (hs3 : y3.size = 1) (hb3 : y3.bytes * n3 ≤ 281474976710656) (hn3 : n3 ≤ maxLen)
    (L : Bool → Bool → Bool → Bool → Array Bool) (A : Value → Value → Value → Value → Act)
    (hL0 : ∀ b0 b1 b2 b3, (L b0 b1 b2 b3).setIfInBounds i0 true = L true b1 b2 b3) (hL1 : ∀ b0 b1 b2 b3, (L b0 b1 b2 b3).setIfInBounds i1 true = L b0 true b2 b3) (hL2 : ∀ b0 b1 b2 b3, (L b0 b1 b2 b3).setIfInBounds i2 true = L b0 b1 true b3) (hL3 : ∀ b0 b1 b2 b3, (L b0 b1 b2 b3).setIfInBounds i3 true = L b0 b1 b2 true)
    (hr : ∀ b0 b1 b2 b3, (b0 && b1 && b2 && b3) = false → Region.ready md ops (L b0 b1 b2 b3) = (if b0 = true then [] else [i0]) ++ (if b1 = true then [] else [i1]) ++ (if b2 = true then [] else [i2]) ++ (if b3 = true then [] else [i3]))
    (hA0 : ∀ x v0 v1 v2 v3, (A v0 v1 v2 v3).put o0.dst x = A x v1 v2 v3) (hA1 : ∀ x v0 v1 v2 v3, (A v0 v1 v2 v3).put o1.dst x = A v0 x v2 v3) (hA2 : ∀ x v0 v1 v2 v3, (A v0 v1 v2 v3).put o2.dst x = A v0 v1 x v3) (hA3 : ∀ x v0 v1 v2 v3, (A v0 v1 v2 v3).put o3.dst x = A v0 v1 v2 x)
    (hl0 : ∀ v0 v1 v2 v3, (A v0 v1 v2 v3).eval l0 = .int .i64 (n0 : Int)) (hl1 : ∀ v0 v1 v2 v3, (A v0 v1 v2 v3).eval l1 = .int .i64 (n1 : Int)) (hl2 : ∀ v0 v1 v2 v3, (A v0 v1 v2 v3).eval l2 = .int .i64 (n2 : Int)) (hl3 : ∀ v0 v1 v2 v3, (A v0 v1 v2 v3).eval l3 = .int .i64 (n3 : Int))
    (W : World) (hS : ∀ wx, Below W.heap.size W wx → S wx) (fuel : Nat)
    (hfin : ∀ v0 v1 v2 v3 g0 g1 g2 g3 w', M4 e0 e1 e2 e3 z0 z1 z2 z3 n0 n1 n2 n3 W true true true true v0 v1 v2 v3 g0 g1 g2 g3 w' → AnyK P md ops Q S [] fuel (L true true true true) (A v0 v1 v2 v3) w') :
    ∀ (m : Nat) (b0 b1 b2 b3 : Bool) (v0 v1 v2 v3 : Value) (g0 g1 g2 g3 : Nat) (w : World), (if b0 = true then 0 else 1) + (if b1 = true then 0 else 1) + (if b2 = true then 0 else 1) + (if b3 = true then 0 else 1) = m → M4 e0 e1 e2 e3 z0 z1 z2 z3 n0 n1 n2 n3 W b0 b1 b2 b3 v0 v1 v2 v3 g0 g1 g2 g3 w → AnyK P md ops Q S [] (fuel + m) (L b0 b1 b2 b3) (A v0 v1 v2 v3) w := by
  intro m
  induction m with
  | zero =>
    intro b0 b1 b2 b3 v0 v1 v2 v3 g0 g1 g2 g3 w hm h
    have hall : b0 = true ∧ b1 = true ∧ b2 = true ∧ b3 = true := by
      cases b0 <;> cases b1 <;> cases b2 <;> cases b3 <;> simp at hm ⊢
    obtain ⟨rfl, rfl, rfl, rfl⟩ := hall
    exact hfin v0 v1 v2 v3 g0 g1 g2 g3 w h
  | succ m ih =>
    intro b0 b1 b2 b3 v0 v1 v2 v3 g0 g1 g2 g3 w hm h
    have hne : (b0 && b1 && b2 && b3) = false := by
      cases b0 <;> cases b1 <;> cases b2 <;> cases b3 <;> simp at hm ⊢
    have hrd := hr b0 b1 b2 b3 hne
    refine ⟨fun h0 => ?_, fun x hx => ?_⟩
    · rw [hrd] at h0
      cases b0 <;> cases b1 <;> cases b2 <;> cases b3 <;> simp at h0 hne
    · rw [hrd] at hx
      have hx' : (b0 = false ∧ x = i0) ∨ (b1 = false ∧ x = i1) ∨ (b2 = false ∧ x = i2) ∨ (b3 = false ∧ x = i3) := by
        simp only [List.mem_append] at hx
        rcases hx with ((hx | hx) | hx) | hx
        · left
          cases b0 <;> simp at hx ⊢
          exact hx
        · right; left
          cases b1 <;> simp at hx ⊢
          exact hx
        · right; right; left
          cases b2 <;> simp at hx ⊢
          exact hx
        · right; right; right
          cases b3 <;> simp at hx ⊢
          exact hx
      have hlo := h.lo
      rcases hx' with ⟨rfl, rfl⟩ | ⟨rfl, rfl⟩ | ⟨rfl, rfl⟩ | ⟨rfl, rfl⟩
      · refine wpOp_step ho0 (fun K' hK => ?_)
        refine step_make_full hg0 l0 l0 t0 hp0 w.heap.size e0 y0 z0 1 ht0 hy0 hz0 hs0 n0 (hl0 v0 v1 v2 v3) (hl0 v0 v1 v2 v3) hb0 hn0 (Nat.le_refl _) ?_
        intro w' hown hg
        have hb : Below w.heap.size w w' := (Below.refl _ _).grown hg (Nat.le_refl _) (by intro k hk; cases hk)
        have hlo' := hlo.trans (hb.mono hlo.size)
        rw [hA0]
        refine hK _ _ ⟨fun _ => hS _ hlo', ?_⟩
        rw [hL0]
        refine ih true b1 b2 b3 _ v1 v2 v3 w.heap.size g1 g2 g3 w' (by simp only [if_true] at hm ⊢; simp at hm; omega) ?_
        exact ⟨hlo', fun _ => ⟨rfl, hlo.size, hown⟩, fun e => ⟨(h.m1 e).1, (h.m1 e).2.1, raw_same (h.m1 e).2.2 (hb.block _ (raw_lt (h.m1 e).2.2))⟩, fun e => ⟨(h.m2 e).1, (h.m2 e).2.1, raw_same (h.m2 e).2.2 (hb.block _ (raw_lt (h.m2 e).2.2))⟩, fun e => ⟨(h.m3 e).1, (h.m3 e).2.1, raw_same (h.m3 e).2.2 (hb.block _ (raw_lt (h.m3 e).2.2))⟩,
          (fun _ e => by have := raw_lt (h.m1 e).2.2; omega), (fun _ e => by have := raw_lt (h.m2 e).2.2; omega), (fun _ e => by have := raw_lt (h.m3 e).2.2; omega), h.d12, h.d13, h.d23⟩
      · refine wpOp_step ho1 (fun K' hK => ?_)
        refine step_make_full hg1 l1 l1 t1 hp1 w.heap.size e1 y1 z1 1 ht1 hy1 hz1 hs1 n1 (hl1 v0 v1 v2 v3) (hl1 v0 v1 v2 v3) hb1 hn1 (Nat.le_refl _) ?_
        intro w' hown hg
        have hb : Below w.heap.size w w' := (Below.refl _ _).grown hg (Nat.le_refl _) (by intro k hk; cases hk)
        have hlo' := hlo.trans (hb.mono hlo.size)
        rw [hA1]
        refine hK _ _ ⟨fun _ => hS _ hlo', ?_⟩
        rw [hL1]
        refine ih b0 true b2 b3 v0 _ v2 v3 g0 w.heap.size g2 g3 w' (by simp only [if_true] at hm ⊢; simp at hm; omega) ?_
        exact ⟨hlo', fun e => ⟨(h.m0 e).1, (h.m0 e).2.1, raw_same (h.m0 e).2.2 (hb.block _ (raw_lt (h.m0 e).2.2))⟩, fun _ => ⟨rfl, hlo.size, hown⟩, fun e => ⟨(h.m2 e).1, (h.m2 e).2.1, raw_same (h.m2 e).2.2 (hb.block _ (raw_lt (h.m2 e).2.2))⟩, fun e => ⟨(h.m3 e).1, (h.m3 e).2.1, raw_same (h.m3 e).2.2 (hb.block _ (raw_lt (h.m3 e).2.2))⟩,
          (fun e _ => by have := raw_lt (h.m0 e).2.2; omega), h.d02, h.d03, (fun _ e => by have := raw_lt (h.m2 e).2.2; omega), (fun _ e => by have := raw_lt (h.m3 e).2.2; omega), h.d23⟩
      · refine wpOp_step ho2 (fun K' hK => ?_)
        refine step_make_full hg2 l2 l2 t2 hp2 w.heap.size e2 y2 z2 1 ht2 hy2 hz2 hs2 n2 (hl2 v0 v1 v2 v3) (hl2 v0 v1 v2 v3) hb2 hn2 (Nat.le_refl _) ?_
        intro w' hown hg
        have hb : Below w.heap.size w w' := (Below.refl _ _).grown hg (Nat.le_refl _) (by intro k hk; cases hk)
        have hlo' := hlo.trans (hb.mono hlo.size)
        rw [hA2]
        refine hK _ _ ⟨fun _ => hS _ hlo', ?_⟩
        rw [hL2]
        refine ih b0 b1 true b3 v0 v1 _ v3 g0 g1 w.heap.size g3 w' (by simp only [if_true] at hm ⊢; simp at hm; omega) ?_
        exact ⟨hlo', fun e => ⟨(h.m0 e).1, (h.m0 e).2.1, raw_same (h.m0 e).2.2 (hb.block _ (raw_lt (h.m0 e).2.2))⟩, fun e => ⟨(h.m1 e).1, (h.m1 e).2.1, raw_same (h.m1 e).2.2 (hb.block _ (raw_lt (h.m1 e).2.2))⟩, fun _ => ⟨rfl, hlo.size, hown⟩, fun e => ⟨(h.m3 e).1, (h.m3 e).2.1, raw_same (h.m3 e).2.2 (hb.block _ (raw_lt (h.m3 e).2.2))⟩,
          h.d01, (fun e _ => by have := raw_lt (h.m0 e).2.2; omega), h.d03, (fun e _ => by have := raw_lt (h.m1 e).2.2; omega), h.d13, (fun _ e => by have := raw_lt (h.m3 e).2.2; omega)⟩
      · refine wpOp_step ho3 (fun K' hK => ?_)
        refine step_make_full hg3 l3 l3 t3 hp3 w.heap.size e3 y3 z3 1 ht3 hy3 hz3 hs3 n3 (hl3 v0 v1 v2 v3) (hl3 v0 v1 v2 v3) hb3 hn3 (Nat.le_refl _) ?_
        intro w' hown hg
        have hb : Below w.heap.size w w' := (Below.refl _ _).grown hg (Nat.le_refl _) (by intro k hk; cases hk)
        have hlo' := hlo.trans (hb.mono hlo.size)
        rw [hA3]
        refine hK _ _ ⟨fun _ => hS _ hlo', ?_⟩
        rw [hL3]
        refine ih b0 b1 b2 true v0 v1 v2 _ g0 g1 g2 w.heap.size w' (by simp only [if_true] at hm ⊢; simp at hm; omega) ?_
        exact ⟨hlo', fun e => ⟨(h.m0 e).1, (h.m0 e).2.1, raw_same (h.m0 e).2.2 (hb.block _ (raw_lt (h.m0 e).2.2))⟩, fun e => ⟨(h.m1 e).1, (h.m1 e).2.1, raw_same (h.m1 e).2.2 (hb.block _ (raw_lt (h.m1 e).2.2))⟩, fun e => ⟨(h.m2 e).1, (h.m2 e).2.1, raw_same (h.m2 e).2.2 (hb.block _ (raw_lt (h.m2 e).2.2))⟩, fun _ => ⟨rfl, hlo.size, hown⟩,
          h.d01, h.d02, (fun e _ => by have := raw_lt (h.m0 e).2.2; omega), h.d12, (fun e _ => by have := raw_lt (h.m1 e).2.2; omega), (fun e _ => by have := raw_lt (h.m2 e).2.2; omega)⟩
end

end Go.Proofs.Ytjbhnfejpgjghaa

/- The reference's paired: a pairing without pairs. -/
namespace Go.Proofs.Ytjbhnfejpgjghaa
open Go.RowKit
set_option linter.unusedSimpArgs false
set_option linter.unusedVariables false

/-- the box and its rows lie there -/
def CutP (w1 : World) (AE : Option Addr) (cE R C : Nat) (v3 : Value) (wc : World) : Prop :=
  ∃ gP gRow gCol gOR gOC : Nat, v3 = .pointer (some ⟨gP, 0, none⟩) ∧ (w1.heap.size ≤ gP ∧ w1.heap.size ≤ gRow ∧ w1.heap.size ≤ gCol ∧ w1.heap.size ≤ gOR ∧ w1.heap.size ≤ gOC) ∧
    (gP ≠ gRow ∧ gP ≠ gCol ∧ gP ≠ gOR ∧ gP ≠ gOC) ∧ (gRow ≠ gCol ∧ gRow ≠ gOR ∧ gRow ≠ gOC) ∧ (gCol ≠ gOR ∧ gCol ≠ gOC) ∧ gOR ≠ gOC ∧
    Blk wc gP 86 #[.slice AE R cE, .slice (some ⟨gRow, 0, none⟩) R R, .slice (some ⟨gCol, 0, none⟩) C C, .slice (some ⟨gOR, 0, none⟩) R R, .slice (some ⟨gOC, 0, none⟩) C C] ∧
    RF wc gRow R (fun _ => 0) ∧ RF wc gCol C (fun _ => 0) ∧ RO wc gOR R (fun _ => false) ∧ RO wc gOC C (fun _ => false) ∧ Below w1.heap.size w1 wc

theorem AnyK.cast {P : Program} {ops : Array Oper} {Q : Exit → Act → World → Prop} {md : Region.Mode} {S : World → Prop} {K : List Nat} {fuel fuel' : Nat} {listed listed' : Array Bool} {a a' : Act} {w : World} (h0 : fuel = fuel') (h1 : listed = listed') (h2 : a = a') (h : AnyK P md ops Q S K fuel' listed' a' w) : AnyK P md ops Q S K fuel listed a w := by
  rw [h0, h1, h2]
  exact h
theorem raw_rf {w : World} {g N : Nat} (h : w.ownsRow g 3 1 (.slice (some ⟨g, 0, none⟩) N N) N (madeCells (Value.int .i64 0).cells (N * 1)).toList) : RF w g N (fun _ => 0) := by
  rw [made_zerosI] at h
  unfold RF RI
  have : (List.range N).map (fun _ => (0 : Int)) = List.replicate N 0 := by
    rw [List.eq_replicate_iff]
    simp
  rw [this]
  exact h
theorem raw_ro {w : World} {g N : Nat} (h : w.ownsRow g 4 1 (.slice (some ⟨g, 0, none⟩) N N) N (madeCells (Value.bool false).cells (N * 1)).toList) : RO w g N (fun _ => false) := by
  rw [made_vb] at h
  exact h

theorem QS.setRow {z : QT} (hz : z.Fine) {row col : Nat → Int} {w : World} (h : QS z row col w) (i : Nat) (v : Int) : QS z (upd row i v) col (w.setCell ⟨z.gRow, i, none⟩ (.int .i64 v)) :=
  ⟨h.bP.far (hz.no z.gP (by simp)).1 _, h.en.below ((Below.refl _ _).setCell hz.b.1 _), h.row.set i v, h.col.other hz.rc.symm _ _, h.oR.other (hz.no z.gOR (by simp)).1 _ _, h.oC.other (hz.no z.gOC (by simp)).1 _ _, by simpa [World.setCell] using h.sz⟩
theorem QS.setCol {z : QT} (hz : z.Fine) {row col : Nat → Int} {w : World} (h : QS z row col w) (k : Nat) (v : Int) : QS z row (upd col k v) (w.setCell ⟨z.gCol, k, none⟩ (.int .i64 v)) :=
  ⟨h.bP.far (hz.no z.gP (by simp)).2 _, h.en.below ((Below.refl _ _).setCell hz.b.2.1 _), h.row.other hz.rc _ _, h.col.set k v, h.oR.other (hz.no z.gOR (by simp)).2 _ _, h.oC.other (hz.no z.gOC (by simp)).2 _ _, by simpa [World.setCell] using h.sz⟩
theorem QS.congr {z : QT} {row col row' col' : Nat → Int} {w : World} (h : QS z row col w) (h1 : ∀ i, i < z.R → row i = row' i) (h2 : ∀ k, k < z.C → col k = col' k) : QS z row' col' w :=
  ⟨h.bP, h.en, RF.congr h.row h1, RF.congr h.col h2, h.oR, h.oC, h.sz⟩
def upto (i : Nat) : Nat → Int := fun x => if x < i then -1 else 0
theorem upto_set (i j : Nat) : upd (upto i) i (-1) j = upto (i + 1) j := by
  unfold upd upto
  by_cases e : j = i
  · rw [if_pos e, if_pos (by omega)]
  · rw [if_neg e]
    by_cases e2 : j < i
    · rw [if_pos e2, if_pos (by omega)]
    · rw [if_neg e2, if_neg (by omega)]
/-- what paired answers -/
def PPd (R C : Nat) (E : List (List Nat)) (B : Nat) (AE : Option Addr) (cE : Nat) (w : World) (e : Ending) (w' : World) : Prop :=
  ∃ gP gRow gCol gOR gOC : Nat, e = .returned (.pointer (some ⟨gP, 0, none⟩)) ∧ (w.heap.size ≤ gP ∧ w.heap.size ≤ gRow ∧ w.heap.size ≤ gCol ∧ w.heap.size ≤ gOR ∧ w.heap.size ≤ gOC) ∧ (gP ≠ gOR ∧ gP ≠ gOC ∧ gOR ≠ gOC) ∧
    (QT.mk gP gRow gCol gOR gOC B AE cE R C E (fun _ => true) (fun _ => true)).Fine ∧ QS (QT.mk gP gRow gCol gOR gOC B AE cE R C E (fun _ => true) (fun _ => true)) (fun _ => -1) (fun _ => -1) w' ∧ Below w.heap.size w w'

set_option maxRecDepth 100000 in
set_option maxHeartbeats 4000000 in
theorem ref_paired (R C : Nat) (E : List (List Nat)) (hI : Inc R C E) (B : Nat) (AE : Option Addr) (cE : Nat) (w : World) (hB : B ≤ w.heap.size) (hN : N2 B w AE R cE E) :
    Calls Try.prog 61 #[.agg #[.int .i64 (R : Int), .int .i64 (C : Int), .slice AE R cE]] w (PPd R C E B AE cE w) := by
  have hR := hI.1
  have hC := hI.2.1
  have hu := Try.underlying86
  have hu2 := Try.underlying33
  obtain ⟨i0, hi0, hz0, hz1, hz2⟩ := info_parts infoI
  obtain ⟨j0, hj0, yz0, yz1, yz2⟩ := infoB_parts
  obtain ⟨gM, hgM⟩ : ∃ gM, gM = w.heap.size := ⟨_, rfl⟩
  obtain ⟨W0, hW0⟩ : ∃ W0, W0 = w.alloc (.cells #[.int .i64 (R : Int), .int .i64 (C : Int), .slice AE R cE] 33) := ⟨_, rfl⟩
  have hM : Blk W0 gM 33 #[.int .i64 (R : Int), .int .i64 (C : Int), .slice AE R cE] := by rw [hW0, hgM]; exact Blk.new _ _ _
  have hlo0 : Hid (Below w.heap.size w W0) := by rw [hW0]; exact (Below.refl _ _).alloc (Nat.le_refl _) _
  go_enter Try.func61, Try.ntmps61
  go_upto_region 1 with fail
  rw [← hW0, ← hgM]
  clear hW0 hgM
  go_cut [3] from 6 to 21 (fun v3 wc => CutP W0 AE cE R C v3 wc)
  case first =>
    have hSS : (fun w' : World => w'.cell? ⟨gM, 0, none⟩ = some (.int .i64 (R : Int)) ∧ w'.cell? ⟨gM, 1, none⟩ = some (.int .i64 (C : Int)) ∧ w'.cell? ⟨gM, 2, none⟩ = some (.slice AE R cE)) W0.drew := by obtain ⟨q0, q1, q2⟩ := cells3 hM; exact ⟨q0, q1, q2⟩
    refine wp_region_K (S := (fun w' : World => w'.cell? ⟨gM, 0, none⟩ = some (.int .i64 (R : Int)) ∧ w'.cell? ⟨gM, 1, none⟩ = some (.int .i64 (C : Int)) ∧ w'.cell? ⟨gM, 2, none⟩ = some (.slice AE R cE))) (K := []) (by kernel_rfl) ?_
    refine AnyK.takeFree (i := 0) (v := .pointer (some ⟨gM, 2, none⟩)) rfl (by kernel_rfl) (by kernel_rfl) (by kernel_rfl) (by kernel_rfl) (fun _ _ _ h => h) (Or.inl ⟨by rfl, ?_⟩) hSS ?_
    · rintro w' -
      go_simp
    (try simp only [Act.put, List.setIfInBounds_toArray, List.set_cons_zero, List.set_cons_succ])
    refine AnyK.take (i := 1) (v := .slice AE R cE) rfl (by kernel_rfl) (by kernel_rfl) (by kernel_rfl) (by kernel_rfl) (by kernel_rfl) (by kernel_rfl) (fun _ _ _ h => h) (Or.inl ⟨by rfl, ?_⟩) hSS ?_
    · rintro w' ⟨a0, a1, a2⟩
      go_simp
    (try simp only [Act.put, List.setIfInBounds_toArray, List.set_cons_zero, List.set_cons_succ])
    refine AnyK.takeFree (i := 2) (v := .pointer (some ⟨gM, 0, none⟩)) rfl (by kernel_rfl) (by kernel_rfl) (by kernel_rfl) (by kernel_rfl) (fun _ _ _ h => h) (Or.inl ⟨by rfl, ?_⟩) hSS ?_
    · rintro w' -
      go_simp
    (try simp only [Act.put, List.setIfInBounds_toArray, List.set_cons_zero, List.set_cons_succ])
    refine AnyK.take (i := 3) (v := .int .i64 (R : Int)) rfl (by kernel_rfl) (by kernel_rfl) (by kernel_rfl) (by kernel_rfl) (by kernel_rfl) (by kernel_rfl) (fun _ _ _ h => h) (Or.inl ⟨by rfl, ?_⟩) hSS ?_
    · rintro w' ⟨a0, a1, a2⟩
      go_simp
    (try simp only [Act.put, List.setIfInBounds_toArray, List.set_cons_zero, List.set_cons_succ])
    refine AnyK.takeFree (i := 5) (v := .pointer (some ⟨gM, 1, none⟩)) rfl (by kernel_rfl) (by kernel_rfl) (by kernel_rfl) (by kernel_rfl) (fun _ _ _ h => h) (Or.inl ⟨by rfl, ?_⟩) hSS ?_
    · rintro w' -
      go_simp
    (try simp only [Act.put, List.setIfInBounds_toArray, List.set_cons_zero, List.set_cons_succ])
    refine AnyK.take (i := 6) (v := .int .i64 (C : Int)) rfl (by kernel_rfl) (by kernel_rfl) (by kernel_rfl) (by kernel_rfl) (by kernel_rfl) (by kernel_rfl) (fun _ _ _ h => h) (Or.inl ⟨by rfl, ?_⟩) hSS ?_
    · rintro w' ⟨a0, a1, a2⟩
      go_simp
    (try simp only [Act.put, List.setIfInBounds_toArray, List.set_cons_zero, List.set_cons_succ])
    refine AnyK.takeFree (i := 8) (v := .pointer (some ⟨gM, 0, none⟩)) rfl (by kernel_rfl) (by kernel_rfl) (by kernel_rfl) (by kernel_rfl) (fun _ _ _ h => h) (Or.inl ⟨by rfl, ?_⟩) hSS ?_
    · rintro w' -
      go_simp
    (try simp only [Act.put, List.setIfInBounds_toArray, List.set_cons_zero, List.set_cons_succ])
    refine AnyK.take (i := 9) (v := .int .i64 (R : Int)) rfl (by kernel_rfl) (by kernel_rfl) (by kernel_rfl) (by kernel_rfl) (by kernel_rfl) (by kernel_rfl) (fun _ _ _ h => h) (Or.inl ⟨by rfl, ?_⟩) hSS ?_
    · rintro w' ⟨a0, a1, a2⟩
      go_simp
    (try simp only [Act.put, List.setIfInBounds_toArray, List.set_cons_zero, List.set_cons_succ])
    refine AnyK.takeFree (i := 11) (v := .pointer (some ⟨gM, 1, none⟩)) rfl (by kernel_rfl) (by kernel_rfl) (by kernel_rfl) (by kernel_rfl) (fun _ _ _ h => h) (Or.inl ⟨by rfl, ?_⟩) hSS ?_
    · rintro w' -
      go_simp
    (try simp only [Act.put, List.setIfInBounds_toArray, List.set_cons_zero, List.set_cons_succ])
    refine AnyK.take (i := 12) (v := .int .i64 (C : Int)) rfl (by kernel_rfl) (by kernel_rfl) (by kernel_rfl) (by kernel_rfl) (by kernel_rfl) (by kernel_rfl) (fun _ _ _ h => h) (Or.inl ⟨by rfl, ?_⟩) hSS ?_
    · rintro w' ⟨a0, a1, a2⟩
      go_simp
    (try simp only [Act.put, List.setIfInBounds_toArray, List.set_cons_zero, List.set_cons_succ])
    have hb0 : Below W0.heap.size W0 W0.drew := (Below.refl _ _).drew
    have hSW : ∀ wx, Below W0.drew.heap.size W0.drew wx → (fun w' : World => w'.cell? ⟨gM, 0, none⟩ = some (.int .i64 (R : Int)) ∧ w'.cell? ⟨gM, 1, none⟩ = some (.int .i64 (C : Int)) ∧ w'.cell? ⟨gM, 2, none⟩ = some (.slice AE R cE)) wx := fun wx hb => by
      have hM2 := hM.call (hb0.trans (hb.mono (Nat.le_refl _)))
      obtain ⟨q0, q1, q2⟩ := cells3 hM2
      exact ⟨q0, q1, q2⟩
    refine AnyK.cast (fuel' := 3 + 4) (listed' := #[true, true, true, true, false, true, true, false, true, true, false, true, true, false, false, false, false]) (a' := { tmps := #[Value.agg #[.int .i64 (R : Int), .int .i64 (C : Int), .slice AE R cE], .pointer (some ⟨gM, 0, none⟩), .pointer none, undef, undef, undef, .pointer (some ⟨gM, 2, none⟩), .slice AE R cE, .pointer (some ⟨gM, 0, none⟩), .int .i64 (R : Int), undef, .pointer (some ⟨gM, 1, none⟩), .int .i64 (C : Int), undef, .pointer (some ⟨gM, 0, none⟩), .int .i64 (R : Int), undef, .pointer (some ⟨gM, 1, none⟩), .int .i64 (C : Int), undef, undef, undef, undef, undef, undef, undef, undef, undef, undef, undef, undef, undef, undef, undef, undef, undef, undef, undef, undef, undef, undef, undef, undef, undef, undef, undef, undef, undef, undef, undef, undef, undef, undef], defers := [] }) (by kernel_rfl) (by kernel_rfl) (by kernel_rfl) ?_
    refine AnyK.makes4 (i0 := 4) (i1 := 7) (i2 := 10) (i3 := 13) (e0 := 3) (e1 := 3) (e2 := 4) (e3 := 4) (z0 := .int .i64 0) (z1 := .int .i64 0) (z2 := .bool false) (z3 := .bool false) (n0 := R) (n1 := C) (n2 := R) (n3 := C)
      rfl rfl rfl rfl rfl rfl rfl rfl rfl rfl rfl rfl
      Try.underlying23 hi0 hz0 hz1 (by rw [hz2]; omega) (by unfold maxLen; omega)
      Try.underlying23 hi0 hz0 hz1 (by rw [hz2]; omega) (by unfold maxLen; omega)
      Try.underlying67 hj0 yz0 yz1 (by rw [yz2]; omega) (by unfold maxLen; omega)
      Try.underlying67 hj0 yz0 yz1 (by rw [yz2]; omega) (by unfold maxLen; omega)
      (fun b0 b1 b2 b3 => #[true, true, true, true, b0, true, true, b1, true, true, b2, true, true, b3, false, false, false]) (fun v0 v1 v2 v3 => { tmps := #[Value.agg #[.int .i64 (R : Int), .int .i64 (C : Int), .slice AE R cE], .pointer (some ⟨gM, 0, none⟩), .pointer none, undef, undef, undef, .pointer (some ⟨gM, 2, none⟩), .slice AE R cE, .pointer (some ⟨gM, 0, none⟩), .int .i64 (R : Int), v0, .pointer (some ⟨gM, 1, none⟩), .int .i64 (C : Int), v1, .pointer (some ⟨gM, 0, none⟩), .int .i64 (R : Int), v2, .pointer (some ⟨gM, 1, none⟩), .int .i64 (C : Int), v3, undef, undef, undef, undef, undef, undef, undef, undef, undef, undef, undef, undef, undef, undef, undef, undef, undef, undef, undef, undef, undef, undef, undef, undef, undef, undef, undef, undef, undef, undef, undef, undef, undef], defers := [] })
      (by intros; kernel_rfl) (by intros; kernel_rfl) (by intros; kernel_rfl) (by intros; kernel_rfl)
      (fun b0 b1 b2 b3 h => by cases b0 <;> cases b1 <;> cases b2 <;> cases b3 <;> first | (exact absurd h (by decide)) | kernel_rfl)
      (by intros; kernel_rfl) (by intros; kernel_rfl) (by intros; kernel_rfl) (by intros; kernel_rfl)
      (by intros; kernel_rfl) (by intros; kernel_rfl) (by intros; kernel_rfl) (by intros; kernel_rfl)
      W0.drew hSW 3 ?_ 4 false false false false undef undef undef undef 0 0 0 0 W0.drew rfl ⟨Below.refl _ _, (fun h => by cases h), (fun h => by cases h), (fun h => by cases h), (fun h => by cases h), (fun h => by cases h), (fun h => by cases h), (fun h => by cases h), (fun h => by cases h), (fun h => by cases h), (fun h => by cases h)⟩
    intro v0 v1 v2 v3 g0 g1 g2 g3 w4 hm
    obtain ⟨rfl, a0, r0⟩ := hm.m0 rfl
    obtain ⟨rfl, a1, r1⟩ := hm.m1 rfl
    obtain ⟨rfl, a2, r2⟩ := hm.m2 rfl
    obtain ⟨rfl, a3, r3⟩ := hm.m3 rfl
    have d01 := hm.d01 rfl rfl
    have d02 := hm.d02 rfl rfl
    have d03 := hm.d03 rfl rfl
    have d12 := hm.d12 rfl rfl
    have d13 := hm.d13 rfl rfl
    have d23 := hm.d23 rfl rfl
    have hlo := hm.lo
    have bE : Below w4.heap.size w4 (w4.alloc (.cells #[.slice AE R cE, .slice (some ⟨g0, 0, none⟩) R R, .slice (some ⟨g1, 0, none⟩) C C, .slice (some ⟨g2, 0, none⟩) R R, .slice (some ⟨g3, 0, none⟩) C C] 86)) := (Below.refl _ _).alloc (Nat.le_refl _) _
    have hlE := hlo.trans (bE.mono hlo.size)
    have s0 := raw_lt r0
    have s1 := raw_lt r1
    have s2 := raw_lt r2
    have s3 := raw_lt r3
    have hsz := hlo.size
    have hd : W0.drew.heap.size = W0.heap.size := rfl
    rw [hd] at hsz a0 a1 a2 a3
    have t0 := (raw_rf r0).call bE
    have t1 := (raw_rf r1).call bE
    have t2 := (raw_ro r2).call bE
    have t3 := (raw_ro r3).call bE
    have hSa := hSW _ hlo
    have hSb := hSW _ hlE
    have hbl : Below W0.heap.size W0 (w4.alloc (.cells #[.slice AE R cE, .slice (some ⟨g0, 0, none⟩) R R, .slice (some ⟨g1, 0, none⟩) C C, .slice (some ⟨g2, 0, none⟩) R R, .slice (some ⟨g3, 0, none⟩) C C] 86)) := hb0.trans (hlE.mono (Nat.le_refl _))
    clear hm
    refine AnyK.one (i := 14) (by kernel_rfl) rfl (fun K' hK => ?_)
    go_simp
    refine hK.out _ _ (fun _ => hSa) ?_
    clear hK
    (try simp only [Act.put, List.setIfInBounds_toArray, List.set_cons_zero, List.set_cons_succ])
    refine AnyK.one (i := 15) (by kernel_rfl) rfl (fun K' hK => ?_)
    go_simp
    refine hK.out _ _ (fun _ => hSb) ?_
    clear hK
    (try simp only [Act.put, List.setIfInBounds_toArray, List.set_cons_zero, List.set_cons_succ])
    refine AnyK.one (i := 16) (by kernel_rfl) rfl (fun K' hK => ?_)
    go_simp
    refine hK.out _ _ (fun _ => hSb) ?_
    clear hK
    (try simp only [Act.put, List.setIfInBounds_toArray, List.set_cons_zero, List.set_cons_succ])
    refine AnyK.done (by kernel_rfl) ?_ _
    go_wp2_with fail
    go_meet
    exact ⟨w4.heap.size, g0, g1, g2, g3, rfl, ⟨by omega, by omega, by omega, by omega, by omega⟩, ⟨by omega, by omega, by omega, by omega⟩, ⟨d01, d02, d03⟩, ⟨d12, d13⟩, d23, Blk.new _ _ _, t0, t1, t2, t3, hbl⟩
  case rest =>
    obtain ⟨gP, gRow, gCol, gOR, gOC, rfl, ⟨l0, l1, l2, l3, l4⟩, ⟨d1, d2, d3, d4⟩, ⟨d5, d6, d7⟩, ⟨d8, d9⟩, d10, hP, hr, hc, hor, hoc, hlo⟩ := hcut
    obtain ⟨z, hz⟩ : ∃ z, z = QT.mk gP gRow gCol gOR gOC B AE cE R C E (fun _ => true) (fun _ => true) := ⟨_, rfl⟩
    have hls := hlo0.out.size
    have hzf : z.Fine := by
      rw [hz]
      exact ⟨hI, ⟨by show B ≤ gRow; omega, by show B ≤ gCol; omega, by show B ≤ gP; omega, by show B ≤ gOR; omega, by show B ≤ gOC; omega⟩, d5, fun g hg => by
        have hg' : g = gP ∨ g = gOR ∨ g = gOC := by simpa using hg
        show g ≠ gRow ∧ g ≠ gCol
        omega⟩
    have hlo2 := hlo0.out.trans (hlo.mono hls)
    have hq : QS z (upto 0) (upto 0) wc := by
      have h0 : upto 0 = fun _ => 0 := by funext x; simp [upto]
      rw [h0, hz]
      exact ⟨hP, hN.below (hlo2.mono hB), hr, hc, hor, hoc, Nat.le_trans hB hlo2.size⟩
    have hz' : Hid (z.gP = gP ∧ z.gRow = gRow ∧ z.gCol = gCol ∧ z.R = R ∧ z.C = C) := by rw [hz]; exact ⟨rfl, rfl, rfl, rfl, rfl⟩
    have hfin : Hid (∀ wx, QS z (upto R) (upto C) wx → Below w.heap.size w wx → PPd R C E B AE cE w (.returned (.pointer (some ⟨gP, 0, none⟩))) wx) := fun wx hx hb => by
      refine ⟨gP, gRow, gCol, gOR, gOC, rfl, ⟨by omega, by omega, by omega, by omega, by omega⟩, ⟨d3, d4, d10⟩, ?_, ?_, hb⟩
      · rw [hz] at hzf; exact hzf
      · rw [hz] at hx
        exact QS.congr hx (fun i hi => if_pos hi) (fun k hk => if_pos hk)
    have hq0 : Hid (QS z (upto 0) (upto 0) wc) := hq
    have hlo3 : Hid (Below w.heap.size w wc) := hlo2
    have hg2 : Hid (w.heap.size ≤ gRow ∧ w.heap.size ≤ gCol) := ⟨by omega, by omega⟩
    have cP1 := hP.cell 1
    clear hq hlo2 hz hP hr hc hor hoc hlo hlo0 hM
    go_wp2_with fail
    go_loopw [27] (fun v27 wr => ∃ i : Nat, i ≤ R ∧ v27 = .int .i64 (i : Int) ∧ Hid (QS z (upto i) (upto 0) wr) ∧ Hid (Below w.heap.size w wr)) (fun i _ => R - (intOf i).toNat)
    case atStart => exact ⟨0, by omega, rfl, hq0, hlo3⟩
    case round =>
      clear hq0 hlo3 cP1
      obtain ⟨i, hi, rfl, hq, hlo⟩ := hrel
      obtain ⟨e0, e1, e2, e3, e4⟩ := hz'.out
      by_cases hlt : i < R
      · have cP1 : wr.cell? ⟨gP, 1, none⟩ = some (.slice (some ⟨gRow, 0, none⟩) R R) := by have h := hq.out.bP.cell 1; rw [e0, e1, e3] at h; exact h
        have cRi : wr.cell? ⟨gRow, i, none⟩ = some (.int .i64 (upto i i)) := by have h := hq.out.row.cell (i := i) (by omega); rw [e1] at h; exact h
        have fRi : wr.frozen? ⟨gRow, i, none⟩ = false := by have h := hq.out.row.frozen i; rw [e1] at h; exact h
        have hiR : (i : Int) < (R : Int) := by omega
        have hset := (hq.out.setRow hzf i (-1)).congr (fun j _ => upto_set i j) (fun _ _ => rfl)
        rw [e1] at hset
        have hset' := Lib.hid hset
        have hlo' : Hid (Below w.heap.size w (wr.setCell ⟨gRow, i, none⟩ (.int .i64 (-1)))) := hlo.out.setCell hg2.out.1 _
        clear hset e0 e1 e2 e3 e4
        go_wp2_with fail
        exact round_next hlt ⟨hset', hlo'⟩
      · have hin : R = i := by omega
        subst hin
        have cP2 : wr.cell? ⟨gP, 2, none⟩ = some (.slice (some ⟨gCol, 0, none⟩) C C) := by have h := hq.out.bP.cell 2; rw [e0, e2, e4] at h; exact h
        have hq1 := hq
        have hlo1 := hlo
        clear e0 e1 e2 e3 e4 hq hlo
        go_wp2_with fail
        go_loopw [42] (fun v42 wr => ∃ i : Nat, i ≤ C ∧ v42 = .int .i64 (i : Int) ∧ Hid (QS z (upto R) (upto i) wr) ∧ Hid (Below w.heap.size w wr)) (fun i _ => C - (intOf i).toNat)
        case atStart => exact ⟨0, by omega, rfl, hq1, hlo1⟩
        case round =>
          clear hq1 hlo1 cP2
          obtain ⟨i, hi, rfl, hq, hlo⟩ := hrel
          obtain ⟨e0, e1, e2, e3, e4⟩ := hz'.out
          by_cases hlt : i < C
          · have cP2 : wr.cell? ⟨gP, 2, none⟩ = some (.slice (some ⟨gCol, 0, none⟩) C C) := by have h := hq.out.bP.cell 2; rw [e0, e2, e4] at h; exact h
            have cRi : wr.cell? ⟨gCol, i, none⟩ = some (.int .i64 (upto i i)) := by have h := hq.out.col.cell (i := i) (by omega); rw [e2] at h; exact h
            have fRi : wr.frozen? ⟨gCol, i, none⟩ = false := by have h := hq.out.col.frozen i; rw [e2] at h; exact h
            have hiR : (i : Int) < (C : Int) := by omega
            have hset := (hq.out.setCol hzf i (-1)).congr (fun _ _ => rfl) (fun j _ => upto_set i j)
            rw [e2] at hset
            have hset' := Lib.hid hset
            have hlo' : Hid (Below w.heap.size w (wr.setCell ⟨gCol, i, none⟩ (.int .i64 (-1)))) := hlo.out.setCell hg2.out.2 _
            clear hset e0 e1 e2 e3 e4
            go_wp2_with fail
            exact round_next hlt ⟨hset', hlo'⟩
          · have hin : C = i := by omega
            subst hin
            clear e0 e1 e2 e3 e4
            go_wp2_with fail
            go_ret
            exact hfin.out _ hq.out hlo.out

end Go.Proofs.Ytjbhnfejpgjghaa
