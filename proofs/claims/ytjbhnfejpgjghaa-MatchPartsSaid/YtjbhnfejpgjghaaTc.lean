/- Two slices that are made, two boxes, and the store of the first slice in its box: in any order. -/
import Derived.Test.YtjbhnfejpgjghaaTa
import Derived.Test.YtjbhnfejpgjghaaQg
import Derived.Test.YtjbhnfejpgjghaaSk
namespace Go.Proofs.Ytjbhnfejpgjghaa
open Go.RowKit
set_option linter.unusedSimpArgs false
set_option linter.unusedVariables false

structure M5 (R C : Nat) (W : World) (b2 b5 b6 b7 b8 : Bool) (v2 v5 v6 v7 : Value) (g2 g5 g6 g7 : Nat) (w : World) : Prop where
  lo : Below W.heap.size W w
  ok : b8 = true → b2 = true ∧ b6 = true ∧ b7 = true
  m2 : b2 = true → v2 = .slice (some ⟨g2, 0, none⟩) R R ∧ W.heap.size ≤ g2 ∧ RF w g2 R (fun _ => 0)
  m5 : b5 = true → v5 = .slice (some ⟨g5, 0, none⟩) C C ∧ W.heap.size ≤ g5 ∧ RF w g5 C (fun _ => 0)
  m6 : b6 = true → v6 = .pointer (some ⟨g6, 0, none⟩) ∧ W.heap.size ≤ g6 ∧ Blk w g6 23 #[if b8 = true then .slice (some ⟨g2, 0, none⟩) R R else .slice none 0 0]
  m7 : b7 = true → v7 = .pointer (some ⟨g7, 0, none⟩) ∧ W.heap.size ≤ g7 ∧ Blk w g7 23 #[.slice none 0 0]
  d25 : b2 = true → b5 = true → g2 ≠ g5
  d26 : b2 = true → b6 = true → g2 ≠ g6
  d27 : b2 = true → b7 = true → g2 ≠ g7
  d56 : b5 = true → b6 = true → g5 ≠ g6
  d57 : b5 = true → b7 = true → g5 ≠ g7
  d67 : b6 = true → b7 = true → g6 ≠ g7

section
variable {ops : Array Oper} {Q : Exit → Act → World → Prop} {md : Region.Mode} {S : World → Prop}
set_option maxHeartbeats 2000000 in
theorem AnyK.made5 {o2 o5 o6 o7 o8 : Oper} {l2 l5 : Operand} {y0 : TypeInfo} {R C : Nat}
    (ho2 : ops[2]? = some o2) (ho5 : ops[5]? = some o5) (ho6 : ops[6]? = some o6) (ho7 : ops[7]? = some o7) (ho8 : ops[8]? = some o8)
    (hg2 : o2.guard = none) (hg5 : o5.guard = none) (hp2 : o2.op = Op.makeSlice 23 l2 l2) (hp5 : o5.op = Op.makeSlice 23 l5 l5)
    (hy0 : Try.prog.info? 3 = some y0) (hz0 : y0.zero = some (.int .i64 0)) (hs0 : y0.size = 1) (hbR : y0.bytes * R ≤ 281474976710656) (hbC : y0.bytes * C ≤ 281474976710656) (hnR : R ≤ maxLen) (hnC : C ≤ maxLen)
    (L : Bool → Bool → Bool → Bool → Bool → Array Bool) (A : Value → Value → Value → Value → Act)
    (hL2 : ∀ b2 b5 b6 b7 b8, (L b2 b5 b6 b7 b8).setIfInBounds 2 true = L true b5 b6 b7 b8)
    (hL5 : ∀ b2 b5 b6 b7 b8, (L b2 b5 b6 b7 b8).setIfInBounds 5 true = L b2 true b6 b7 b8)
    (hL6 : ∀ b2 b5 b6 b7 b8, (L b2 b5 b6 b7 b8).setIfInBounds 6 true = L b2 b5 true b7 b8)
    (hL7 : ∀ b2 b5 b6 b7 b8, (L b2 b5 b6 b7 b8).setIfInBounds 7 true = L b2 b5 b6 true b8)
    (hL8 : ∀ b2 b5 b6 b7 b8, (L b2 b5 b6 b7 b8).setIfInBounds 8 true = L b2 b5 b6 b7 true)
    (hr : ∀ b2 b5 b6 b7 b8, (b2 && b5 && b6 && b7 && b8) = false → (b8 = true → b2 = true ∧ b6 = true ∧ b7 = true) → Region.ready md ops (L b2 b5 b6 b7 b8) ≠ [] ∧ ∀ x ∈ Region.ready md ops (L b2 b5 b6 b7 b8), (b2 = false ∧ x = 2) ∨ (b5 = false ∧ x = 5) ∨ (b6 = false ∧ x = 6) ∨ (b7 = false ∧ x = 7) ∨ (b8 = false ∧ b2 = true ∧ b6 = true ∧ b7 = true ∧ x = 8))
    (hA2 : ∀ x v2 v5 v6 v7, (A v2 v5 v6 v7).put o2.dst x = A x v5 v6 v7) (hA5 : ∀ x v2 v5 v6 v7, (A v2 v5 v6 v7).put o5.dst x = A v2 x v6 v7)
    (hl2 : ∀ v2 v5 v6 v7, (A v2 v5 v6 v7).eval l2 = .int .i64 (R : Int)) (hl5 : ∀ v2 v5 v6 v7, (A v2 v5 v6 v7).eval l5 = .int .i64 (C : Int))
    (h6 : ∀ v2 v5 v6 v7 w (K' : Act → World → Prop), K' (A v2 v5 (.pointer (some ⟨w.heap.size, 0, none⟩)) v7) (w.alloc (.cells #[.slice none 0 0] 23)) → if Region.wanted o6 (yielded ops (A v2 v5 v6 v7).tmps) = true then o6.wp Try.prog (A v2 v5 v6 v7) w K' Q else K' ((A v2 v5 v6 v7).put o6.dst undef) w)
    (h7 : ∀ v2 v5 v6 v7 w (K' : Act → World → Prop), K' (A v2 v5 v6 (.pointer (some ⟨w.heap.size, 0, none⟩))) (w.alloc (.cells #[.slice none 0 0] 23)) → if Region.wanted o7 (yielded ops (A v2 v5 v6 v7).tmps) = true then o7.wp Try.prog (A v2 v5 v6 v7) w K' Q else K' ((A v2 v5 v6 v7).put o7.dst undef) w)
    (h8 : ∀ (g2 g6 : Nat) v5 v7 w (K' : Act → World → Prop), w.cell? ⟨g6, 0, none⟩ = some (.slice none 0 0) → w.frozen? ⟨g6, 0, none⟩ = false → K' (A (.slice (some ⟨g2, 0, none⟩) R R) v5 (.pointer (some ⟨g6, 0, none⟩)) v7) (w.setCell ⟨g6, 0, none⟩ (.slice (some ⟨g2, 0, none⟩) R R)) →
      if Region.wanted o8 (yielded ops (A (.slice (some ⟨g2, 0, none⟩) R R) v5 (.pointer (some ⟨g6, 0, none⟩)) v7).tmps) = true then o8.wp Try.prog (A (.slice (some ⟨g2, 0, none⟩) R R) v5 (.pointer (some ⟨g6, 0, none⟩)) v7) w K' Q else K' ((A (.slice (some ⟨g2, 0, none⟩) R R) v5 (.pointer (some ⟨g6, 0, none⟩)) v7).put o8.dst undef) w)
    (W : World) (hS : ∀ wx, Below W.heap.size W wx → S wx) (fuel : Nat)
    (hfin : ∀ v2 v5 v6 v7 g2 g5 g6 g7 w', M5 R C W true true true true true v2 v5 v6 v7 g2 g5 g6 g7 w' → AnyK Try.prog md ops Q S [] fuel (L true true true true true) (A v2 v5 v6 v7) w') :
    ∀ (m : Nat) (b2 b5 b6 b7 b8 : Bool) (v2 v5 v6 v7 : Value) (g2 g5 g6 g7 : Nat) (w : World), (if b2 = true then 0 else 1) + (if b5 = true then 0 else 1) + (if b6 = true then 0 else 1) + (if b7 = true then 0 else 1) + (if b8 = true then 0 else 1) = m →
      M5 R C W b2 b5 b6 b7 b8 v2 v5 v6 v7 g2 g5 g6 g7 w → AnyK Try.prog md ops Q S [] (fuel + m) (L b2 b5 b6 b7 b8) (A v2 v5 v6 v7) w := by
  intro m
  induction m with
  | zero =>
    intro b2 b5 b6 b7 b8 v2 v5 v6 v7 g2 g5 g6 g7 w hm h
    have hall : b2 = true ∧ b5 = true ∧ b6 = true ∧ b7 = true ∧ b8 = true := by
      cases b2 <;> cases b5 <;> cases b6 <;> cases b7 <;> cases b8 <;> simp at hm ⊢
    obtain ⟨rfl, rfl, rfl, rfl, rfl⟩ := hall
    exact hfin v2 v5 v6 v7 g2 g5 g6 g7 w h
  | succ m ih =>
    intro b2 b5 b6 b7 b8 v2 v5 v6 v7 g2 g5 g6 g7 w hm h
    have hne : (b2 && b5 && b6 && b7 && b8) = false := by
      cases b2 <;> cases b5 <;> cases b6 <;> cases b7 <;> cases b8 <;> simp at hm ⊢
    obtain ⟨hrd, hrx⟩ := hr b2 b5 b6 b7 b8 hne h.ok
    refine ⟨fun h0 => absurd h0 hrd, fun x hx => ?_⟩
    have hlo := h.lo
    rcases hrx x hx with ⟨rfl, rfl⟩ | ⟨rfl, rfl⟩ | ⟨rfl, rfl⟩ | ⟨rfl, rfl⟩ | ⟨rfl, rfl, rfl, rfl, rfl⟩
    · have h8f : b8 = false := by
        cases b8 with
        | false => rfl
        | true => have := (h.ok rfl).1; cases this
      subst h8f
      refine wpOp_step ho2 (fun K' hK => ?_)
      refine step_make_full hg2 l2 l2 23 hp2 w.heap.size 3 y0 (.int .i64 0) 1 Try.underlying23 hy0 hz0 hs0 R (hl2 v2 v5 v6 v7) (hl2 v2 v5 v6 v7) hbR hnR (Nat.le_refl _) ?_
      intro w' hown hg
      have hb : Below w.heap.size w w' := (Below.refl _ _).grown hg (Nat.le_refl _) (by intro k hk; cases hk)
      have hlo' := hlo.trans (hb.mono hlo.size)
      rw [hA2]
      refine hK _ _ ⟨fun _ => hS _ hlo', ?_⟩
      rw [hL2]
      refine ih true b5 b6 b7 false _ v5 v6 v7 w.heap.size g5 g6 g7 w' (by simp at hm ⊢; omega) ?_
      exact ⟨hlo', fun e => (by cases e), fun _ => ⟨rfl, hlo.size, RF.made hown⟩, fun e => ⟨(h.m5 e).1, (h.m5 e).2.1, (h.m5 e).2.2.call hb⟩, fun e => ⟨(h.m6 e).1, (h.m6 e).2.1, (h.m6 e).2.2.call hb⟩, fun e => ⟨(h.m7 e).1, (h.m7 e).2.1, (h.m7 e).2.2.call hb⟩,
        fun _ e => (by have := (h.m5 e).2.2.lt; omega), fun _ e => (by have := (h.m6 e).2.2.lt; omega), fun _ e => (by have := (h.m7 e).2.2.lt; omega), h.d56, h.d57, h.d67⟩
    · refine wpOp_step ho5 (fun K' hK => ?_)
      refine step_make_full hg5 l5 l5 23 hp5 w.heap.size 3 y0 (.int .i64 0) 1 Try.underlying23 hy0 hz0 hs0 C (hl5 v2 v5 v6 v7) (hl5 v2 v5 v6 v7) hbC hnC (Nat.le_refl _) ?_
      intro w' hown hg
      have hb : Below w.heap.size w w' := (Below.refl _ _).grown hg (Nat.le_refl _) (by intro k hk; cases hk)
      have hlo' := hlo.trans (hb.mono hlo.size)
      rw [hA5]
      refine hK _ _ ⟨fun _ => hS _ hlo', ?_⟩
      rw [hL5]
      refine ih b2 true b6 b7 b8 v2 _ v6 v7 g2 w.heap.size g6 g7 w' (by simp at hm ⊢; omega) ?_
      exact ⟨hlo', h.ok, fun e => ⟨(h.m2 e).1, (h.m2 e).2.1, (h.m2 e).2.2.call hb⟩, fun _ => ⟨rfl, hlo.size, RF.made hown⟩, fun e => ⟨(h.m6 e).1, (h.m6 e).2.1, (h.m6 e).2.2.call hb⟩, fun e => ⟨(h.m7 e).1, (h.m7 e).2.1, (h.m7 e).2.2.call hb⟩,
        fun e _ => (by have := (h.m2 e).2.2.lt; omega), h.d26, h.d27, fun _ e => (by have := (h.m6 e).2.2.lt; omega), fun _ e => (by have := (h.m7 e).2.2.lt; omega), h.d67⟩
    · have h8f : b8 = false := by
        cases b8 with
        | false => rfl
        | true => have := (h.ok rfl).2.1; cases this
      subst h8f
      refine wpOp_step ho6 (fun K' hK => ?_)
      have hb : Below w.heap.size w (w.alloc (.cells #[.slice none 0 0] 23)) := (Below.refl _ _).alloc (Nat.le_refl _) _
      have hlo' := hlo.trans (hb.mono hlo.size)
      refine h6 v2 v5 v6 v7 w K' (hK _ _ ⟨fun _ => hS _ hlo', ?_⟩)
      rw [hL6]
      refine ih b2 b5 true b7 false v2 v5 _ v7 g2 g5 w.heap.size g7 _ (by simp at hm ⊢; omega) ?_
      exact ⟨hlo', fun e => (by cases e), fun e => ⟨(h.m2 e).1, (h.m2 e).2.1, (h.m2 e).2.2.call hb⟩, fun e => ⟨(h.m5 e).1, (h.m5 e).2.1, (h.m5 e).2.2.call hb⟩, fun _ => ⟨rfl, hlo.size, Blk.new _ _ _⟩, fun e => ⟨(h.m7 e).1, (h.m7 e).2.1, (h.m7 e).2.2.call hb⟩,
        h.d25, fun e _ => (by have := (h.m2 e).2.2.lt; omega), h.d27, fun e _ => (by have := (h.m5 e).2.2.lt; omega), h.d57, fun _ e => (by have := (h.m7 e).2.2.lt; omega)⟩
    · have h8f : b8 = false := by
        cases b8 with
        | false => rfl
        | true => have := (h.ok rfl).2.2; cases this
      subst h8f
      refine wpOp_step ho7 (fun K' hK => ?_)
      have hb : Below w.heap.size w (w.alloc (.cells #[.slice none 0 0] 23)) := (Below.refl _ _).alloc (Nat.le_refl _) _
      have hlo' := hlo.trans (hb.mono hlo.size)
      refine h7 v2 v5 v6 v7 w K' (hK _ _ ⟨fun _ => hS _ hlo', ?_⟩)
      rw [hL7]
      refine ih b2 b5 b6 true false v2 v5 v6 _ g2 g5 g6 w.heap.size _ (by simp at hm ⊢; omega) ?_
      exact ⟨hlo', fun e => (by cases e), fun e => ⟨(h.m2 e).1, (h.m2 e).2.1, (h.m2 e).2.2.call hb⟩, fun e => ⟨(h.m5 e).1, (h.m5 e).2.1, (h.m5 e).2.2.call hb⟩, fun e => ⟨(h.m6 e).1, (h.m6 e).2.1, (h.m6 e).2.2.call hb⟩, fun _ => ⟨rfl, hlo.size, Blk.new _ _ _⟩,
        h.d25, h.d26, fun e _ => (by have := (h.m2 e).2.2.lt; omega), h.d56, fun e _ => (by have := (h.m5 e).2.2.lt; omega), fun e _ => (by have := (h.m6 e).2.2.lt; omega)⟩
    · refine wpOp_step ho8 (fun K' hK => ?_)
      obtain ⟨rfl, a2, r2⟩ := h.m2 rfl
      obtain ⟨rfl, a6, r6⟩ := h.m6 rfl
      obtain ⟨rfl, a7, r7⟩ := h.m7 rfl
      have hd26 := h.d26 rfl rfl
      have hd67 := h.d67 rfl rfl
      have hlo' := hlo.setCell (p := ⟨g6, 0, none⟩) a6 (.slice (some ⟨g2, 0, none⟩) R R)
      refine h8 g2 g6 v5 _ w K' (r6.cell 0) (r6.frozen 0) (hK _ _ ⟨fun _ => hS _ hlo', ?_⟩)
      rw [hL8]
      refine ih true b5 true true true _ v5 _ _ g2 g5 g6 g7 _ (by simp at hm ⊢; omega) ?_
      exact ⟨hlo', fun _ => ⟨rfl, rfl, rfl⟩, fun _ => ⟨rfl, a2, r2.other hd26 _ _⟩, fun e => ⟨(h.m5 e).1, (h.m5 e).2.1, (h.m5 e).2.2.other (h.d56 e rfl) _ _⟩, fun _ => ⟨rfl, a6, r6.set 0 _⟩, fun _ => ⟨rfl, a7, r7.far (by show g7 ≠ g6; omega) _⟩,
        h.d25, h.d26, h.d27, h.d56, h.d57, h.d67⟩
end

end Go.Proofs.Ytjbhnfejpgjghaa

/- The program's Parts: the walk. -/
namespace Go.Proofs.Ytjbhnfejpgjghaa
open Go.RowKit
set_option linter.unusedSimpArgs false
set_option linter.unusedVariables false

/-- the boxes and their rows lie there -/
def CutB (w4 : World) (R C : Nat) (v7 v8 : Value) (wc : World) : Prop :=
  ∃ gR gC gRB gCB : Nat, v7 = .pointer (some ⟨gRB, 0, none⟩) ∧ v8 = .pointer (some ⟨gCB, 0, none⟩) ∧ (w4.heap.size ≤ gR ∧ w4.heap.size ≤ gC ∧ w4.heap.size ≤ gRB ∧ w4.heap.size ≤ gCB) ∧
    (gR ≠ gC ∧ gR ≠ gRB ∧ gR ≠ gCB ∧ gC ≠ gRB ∧ gC ≠ gCB ∧ gRB ≠ gCB) ∧ Blk wc gRB 23 #[.slice (some ⟨gR, 0, none⟩) R R] ∧ Blk wc gCB 23 #[.slice (some ⟨gC, 0, none⟩) C C] ∧
    RF wc gR R (fun _ => 0) ∧ RF wc gC C (fun _ => 0) ∧ Below w4.heap.size w4 wc

/-- what holds throughout -/
structure HS (z : WT) (w : World) (fR fC : Nat → Int) (wr : World) : Prop where
  lo : Below w.heap.size w wr
  bRB : Blk wr z.gRB 23 #[.slice (some ⟨z.gR, 0, none⟩) z.R z.R]
  bM : Blk wr z.gM 33 #[.int .i64 (z.R : Int), .int .i64 (z.C : Int), .slice z.AE z.R z.cE]
  bCB : Blk wr z.gCB 23 #[.slice (some ⟨z.gC, 0, none⟩) z.C z.C]
  bP : Blk wr z.gP 62 #[.slice (some ⟨z.gRow, 0, none⟩) z.R z.R, .slice (some ⟨z.gCol, 0, none⟩) z.C z.C]
  en : N2 z.B wr z.AE z.R z.cE z.E
  row : RF wr z.gRow z.R z.row
  col : RF wr z.gCol z.C z.col
  rR : RF wr z.gR z.R fR
  rC : RF wr z.gC z.C fC
  sz : z.B ≤ wr.heap.size
structure HF (z : WT) (w : World) : Prop where
  b : z.B ≤ z.gR ∧ z.B ≤ z.gC ∧ w.heap.size ≤ z.gR ∧ w.heap.size ≤ z.gC
  rc : z.gR ≠ z.gC
  no : ∀ g ∈ [z.gRB, z.gM, z.gCB, z.gP, z.gRow, z.gCol], g ≠ z.gR ∧ g ≠ z.gC
section
variable {z : WT} {w wr w' : World} {fR fC : Nat → Int}
theorem HS.call (h : HS z w fR fC wr) (hb : Below wr.heap.size wr w') : HS z w fR fC w' :=
  ⟨h.lo.trans (hb.mono h.lo.size), h.bRB.call hb, h.bM.call hb, h.bCB.call hb, h.bP.call hb, h.en.below (hb.mono h.sz), h.row.call hb, h.col.call hb, h.rR.call hb, h.rC.call hb, Nat.le_trans h.sz hb.size⟩
theorem HS.fr (hz : HF z w) (h : HS z w fR fC wr) (hf : Fr [z.gR, z.gC] wr w') {fR' fC' : Nat → Int} (h1 : RF w' z.gR z.R fR') (h2 : RF w' z.gC z.C fC') : HS z w fR' fC' w' := by
  have hn : ∀ g ∈ [z.gRB, z.gM, z.gCB, z.gP, z.gRow, z.gCol], g ∉ [z.gR, z.gC] := fun g hg hm => by
    have := hz.no g hg
    simp at hm
    omega
  have hb := hz.b
  exact ⟨h.lo.trans (hf.below h.lo.size (by simp; omega)), hf.blk h.bRB (hn _ (by simp)), hf.blk h.bM (hn _ (by simp)), hf.blk h.bCB (hn _ (by simp)), hf.blk h.bP (hn _ (by simp)), h.en.below (hf.below h.sz (by simp; omega)), h.row.fr hf (hn _ (by simp)), h.col.fr hf (hn _ (by simp)), h1, h2, Nat.le_trans h.sz hf.size⟩
theorem HS.setR (hz : HF z w) (h : HS z w fR fC wr) (i : Nat) (x : Int) : HS z w (upd fR i x) fC (wr.setCell ⟨z.gR, i, none⟩ (.int .i64 x)) :=
  h.fr hz ((Fr.refl _ _).set (by simp) _) (h.rR.set i x) (h.rC.other (Ne.symm hz.rc) _ _)
theorem HS.setC (hz : HF z w) (h : HS z w fR fC wr) (i : Nat) (x : Int) : HS z w fR (upd fC i x) (wr.setCell ⟨z.gC, i, none⟩ (.int .i64 x)) :=
  h.fr hz ((Fr.refl _ _).set (by simp) _) (h.rR.other hz.rc _ _) (h.rC.set i x)
theorem HS.congr (h : HS z w fR fC wr) {fR' fC' : Nat → Int} (h1 : ∀ i, i < z.R → fR i = fR' i) (h2 : ∀ k, k < z.C → fC k = fC' k) : HS z w fR' fC' wr :=
  ⟨h.lo, h.bRB, h.bM, h.bCB, h.bP, h.en, h.row, h.col, RF.congr h.rR h1, RF.congr h.rC h2, h.sz⟩
end

/-! ## what it answers -/
def prow (E : List (List Nat)) (R C : Nat) (row col : Nat → Int) (i : Nat) : Int := if (goA E C row col C).rs i = true then 2 else mrk (goPA E R row col R).rs i
def anyr (rs : Nat → Bool) (row : Nat → Int) (n k : Nat) : Bool := (List.range n).any fun r => rs r && (row r == (k : Int))
def pcol (E : List (List Nat)) (R C : Nat) (row col : Nat → Int) (k : Nat) : Int := if col k < 0 then 2 else if anyr (goA E C row col C).rs row R k = true then 2 else mrk (goPA E R row col R).cs k
def partsT (E : List (List Nat)) (R C : Nat) (row col : Nat → Int) : List Int × List Int × Int := ((List.range R).map (prow E R C row col), (List.range C).map (pcol E R C row col), 0)
def partsS (rows cols : Int) (ls : List (List Int)) : List Int × List Int × Int :=
  if vErr rows cols ls = 0 then partsT (nE ls) rows.toNat cols.toNat (fill (nE ls) (fun _ => true) (fun _ => true) cols.toNat rows.toNat).1 (fill (nE ls) (fun _ => true) (fun _ => true) cols.toNat rows.toNat).2 else ([], [], 1)
def PPt (rows cols : Int) (ls : List (List Int)) (w : World) (e : Ending) (w' : World) : Prop :=
  ∃ (A : Option Addr) (n c : Nat) (zs : List Int) (A2 : Option Addr) (n2 c2 : Nat) (zs2 : List Int) (er : Int), e = .returned (.tuple #[.slice A n c, .slice A2 n2 c2, .int .i64 er]) ∧ IL w' A n c zs ∧ IL w' A2 n2 c2 zs2 ∧ Hid (partsS rows cols ls = (zs, zs2, er)) ∧ Below w.heap.size w w'

set_option maxRecDepth 100000 in
set_option maxHeartbeats 4000000 in
theorem m_parts (rows cols : Int) (A : Option Addr) (n c : Nat) (ls : List (List Int)) (w : World) (hL : L2 w A n c ls) (hr : In64 rows) (hc : In64 cols) :
    Calls Try.prog 16 #[.agg #[.int .i64 rows, .int .i64 cols, .slice A n c]] w (PPt rows cols ls w) := by
  have hu := Try.underlying55
  have hu2 := Try.underlying62
  have hmf : ∀ (fn : Fn) (first cap : Array Value) (w : World), (Instr.makeFunc fn first cap).run Try.prog w = .ok (.func fn first cap) w := fun _ _ _ _ => rfl
  obtain ⟨i0, hi0, hz0, hz1, hz2⟩ := m_info
  have hO := Own.one w 33 #[.int .i64 rows, .int .i64 cols, .slice A n c]
  have hV := m_validate rows cols A n c ls _ (hL.below hO.1 (Nat.le_refl _)) hr hc
  have hO' := Lib.hid hO
  rcases vErr_two rows cols ls with h0 | h1
  · rw [h0] at hV
    have hV' := Lib.hid hV
    obtain ⟨e1, e2, hI, hnn⟩ := inc_of h0
    have hN := n2_of hL hnn
    obtain ⟨R, hR⟩ : ∃ R, R = rows.toNat := ⟨_, rfl⟩
    obtain ⟨C, hC⟩ : ∃ C, C = cols.toNat := ⟨_, rfl⟩
    obtain ⟨E, hE⟩ : ∃ E, E = nE ls := ⟨_, rfl⟩
    rw [← hR, ← hC, ← hE] at hI
    obtain ⟨row, hrow⟩ : ∃ row, row = (fill E (fun _ => true) (fun _ => true) C R).1 := ⟨_, rfl⟩
    obtain ⟨col, hcol⟩ : ∃ col, col = (fill E (fun _ => true) (fun _ => true) C R).2 := ⟨_, rfl⟩
    have hS : Hid (partsS rows cols ls = partsT E R C row col) := by
      show _ = _
      unfold partsS
      rw [if_pos h0, ← hR, ← hC, ← hE, ← hrow, ← hcol]
    unfold PPt
    obtain ⟨S, hS2⟩ : ∃ S, S = partsS rows cols ls := ⟨_, rfl⟩
    rw [← hS2] at hS ⊢
    rw [← hR] at e1
    rw [← hC] at e2
    rw [← hE] at hN
    have hR64 := hI.1
    have hC64 := hI.2.1
    have hnR : n = R := by have := hN.1; have := hI.2.2.1; omega
    have hmx : Hid (Mx E R C row col) := by rw [hrow, hcol]; exact fill_mx hI.2.2.2
    have hrow' := Lib.hid hrow
    have hcol' := Lib.hid hcol
    have hI' := Lib.hid hI
    clear hV hS2 hR hC hE h0 hI hrow hcol
    subst e1 e2 hnR
    go_enter Try.func16, Try.ntmps16
    go_upto_region 5 with (first
      | (go_at_call 27; (with_reducible refine hV'.out.mono ?_); rintro e w2 ⟨rfl, hb2⟩; have hO2 := Lib.hid (hO'.out.call hb2); obtain ⟨m0, m1, m2⟩ := cells3 hO2.out.b0)
      | (go_at_call 39; refine (match_all hI'.out w.heap.size A n c w2 w.heap.size (.cells #[.int .i64 (n : Int), .int .i64 (C : Int), .slice A n c] 33 (0, 0)) ⟨hO2.out.b0, hO2.out.b0.lt⟩ hO2.out.1.size (hN.below hO2.out.1)).mono ?_; rintro e w3 ⟨gr, gc, hg1, hg2, hg3, rfl, hrr, hrc, hb3⟩; rw [← hrow'.out] at hrr; rw [← hcol'.out] at hrc))
    have hb4 : Below w3.heap.size w3 (w3.alloc (.cells #[.slice (some ⟨gr, 0, none⟩) n n, .slice (some ⟨gc, 0, none⟩) C C] 62)) := (Below.refl _ _).alloc (Nat.le_refl _) _
    obtain ⟨w4, hw4⟩ : ∃ w4, w4 = w3.alloc (.cells #[.slice (some ⟨gr, 0, none⟩) n n, .slice (some ⟨gc, 0, none⟩) C C] 62) := ⟨_, rfl⟩
    have hP4 : Blk w4 w3.heap.size 62 #[.slice (some ⟨gr, 0, none⟩) n n, .slice (some ⟨gc, 0, none⟩) C C] := by rw [hw4]; exact Blk.new w3 _ _
    rw [← hw4] at hb4 ⊢
    have hO4 := Lib.hid ((hO2.out.call hb3).call hb4)
    have hrr4 := hrr.call hb4
    have hrc4 := hrc.call hb4
    obtain ⟨gP, hgP⟩ : ∃ gP, gP = w3.heap.size := ⟨_, rfl⟩
    rw [← hgP] at hP4 ⊢
    clear hgP hw4 m0 m1 m2 hrr hrc hb3 hb4 hO2 hb2 hg1 hg2
    obtain ⟨m0, m1, m2⟩ := cells3 hO4.out.b0
    go_cut [7, 8] from 25 to 30 (fun v7 v8 wc => CutB w4 n C v7 v8 wc)
    case first =>
      have hSS : (fun w' : World => w'.cell? ⟨w.heap.size, 0, none⟩ = some (.int .i64 (n : Int)) ∧ w'.cell? ⟨w.heap.size, 1, none⟩ = some (.int .i64 (C : Int))) w4.drew := ⟨m0, m1⟩
      have hSW : ∀ wx, Below w4.heap.size w4 wx → (fun w' : World => w'.cell? ⟨w.heap.size, 0, none⟩ = some (.int .i64 (n : Int)) ∧ w'.cell? ⟨w.heap.size, 1, none⟩ = some (.int .i64 (C : Int))) wx := fun wx hb => by
        obtain ⟨q0, q1, -⟩ := cells3 (hO4.out.call hb).b0
        exact ⟨q0, q1⟩
      refine wp_region_K (S := (fun w' : World => w'.cell? ⟨w.heap.size, 0, none⟩ = some (.int .i64 (n : Int)) ∧ w'.cell? ⟨w.heap.size, 1, none⟩ = some (.int .i64 (C : Int)))) (K := []) (by kernel_rfl) ?_
      refine AnyK.takeFree (i := 0) (v := .pointer (some ⟨w.heap.size, 0, none⟩)) rfl (by kernel_rfl) (by kernel_rfl) (by kernel_rfl) (by kernel_rfl) (fun _ _ _ h => h) (Or.inl ⟨by rfl, ?_⟩) hSS ?_
      · rintro w' -
        go_simp
      (try simp only [Act.put, List.setIfInBounds_toArray, List.set_cons_zero, List.set_cons_succ])
      refine AnyK.take (i := 1) (v := .int .i64 (n : Int)) rfl (by kernel_rfl) (by kernel_rfl) (by kernel_rfl) (by kernel_rfl) (by kernel_rfl) (by kernel_rfl) (fun _ _ _ h => h) (Or.inl ⟨by rfl, ?_⟩) hSS ?_
      · rintro w' ⟨a0, a1⟩
        go_simp
      (try simp only [Act.put, List.setIfInBounds_toArray, List.set_cons_zero, List.set_cons_succ])
      refine AnyK.takeFree (i := 3) (v := .pointer (some ⟨w.heap.size, 1, none⟩)) rfl (by kernel_rfl) (by kernel_rfl) (by kernel_rfl) (by kernel_rfl) (fun _ _ _ h => h) (Or.inl ⟨by rfl, ?_⟩) hSS ?_
      · rintro w' -
        go_simp
      (try simp only [Act.put, List.setIfInBounds_toArray, List.set_cons_zero, List.set_cons_succ])
      refine AnyK.take (i := 4) (v := .int .i64 (C : Int)) rfl (by kernel_rfl) (by kernel_rfl) (by kernel_rfl) (by kernel_rfl) (by kernel_rfl) (by kernel_rfl) (fun _ _ _ h => h) (Or.inl ⟨by rfl, ?_⟩) hSS ?_
      · rintro w' ⟨a0, a1⟩
        go_simp
      (try simp only [Act.put, List.setIfInBounds_toArray, List.set_cons_zero, List.set_cons_succ])
      refine AnyK.cast (fuel' := 1 + 5) (listed' := #[true, true, false, true, true, false, false, false, false, false]) (a' := { tmps := #[Value.agg #[.int .i64 (n : Int), .int .i64 (C : Int), .slice A n c], .pointer (some ⟨w.heap.size, 0, none⟩), .slice none 0 0, .slice none 0 0, .int .i64 0, .int .i64 0, .pointer (some ⟨gP, 0, none⟩), undef, undef, undef, undef, undef, undef, undef, undef, undef, undef, undef, .agg #[.int .i64 (n : Int), .int .i64 (C : Int), .slice A n c], .int .i64 0, .int .i64 0, .bool false, undef, .agg #[.int .i64 (n : Int), .int .i64 (C : Int), .slice A n c], .agg #[.slice (some ⟨gr, 0, none⟩) n n, .slice (some ⟨gc, 0, none⟩) C C], .pointer (some ⟨w.heap.size, 0, none⟩), .int .i64 (n : Int), undef, .pointer (some ⟨w.heap.size, 1, none⟩), .int .i64 (C : Int), undef, undef, undef, undef, undef, undef, undef, undef, undef, undef, undef, undef, undef, undef, undef, undef, undef, undef, undef, undef, undef, undef, undef, undef, undef, undef, undef, undef, undef, undef, undef, undef, undef, undef, undef, undef, undef, undef, undef, undef, undef, undef, undef, undef, undef, undef, undef, undef, undef, undef, undef, undef, undef, undef, undef, undef, undef, undef, undef, undef, undef, undef, undef, undef, undef, undef, undef, undef, undef, undef, undef, undef], defers := [] }) (by kernel_rfl) (by kernel_rfl) (by kernel_rfl) ?_
      refine AnyK.made5 (R := n) (C := C) rfl rfl rfl rfl rfl rfl rfl rfl rfl hi0 hz0 hz1 (by rw [hz2]; omega) (by rw [hz2]; omega) (by unfold maxLen; omega) (by unfold maxLen; omega)
        (fun b2 b5 b6 b7 b8 => #[true, true, b2, true, true, b5, b6, b7, b8, false]) (fun v2 v5 v6 v7 => { tmps := #[Value.agg #[.int .i64 (n : Int), .int .i64 (C : Int), .slice A n c], .pointer (some ⟨w.heap.size, 0, none⟩), .slice none 0 0, .slice none 0 0, .int .i64 0, .int .i64 0, .pointer (some ⟨gP, 0, none⟩), v6, v7, undef, undef, undef, undef, undef, undef, undef, undef, undef, .agg #[.int .i64 (n : Int), .int .i64 (C : Int), .slice A n c], .int .i64 0, .int .i64 0, .bool false, undef, .agg #[.int .i64 (n : Int), .int .i64 (C : Int), .slice A n c], .agg #[.slice (some ⟨gr, 0, none⟩) n n, .slice (some ⟨gc, 0, none⟩) C C], .pointer (some ⟨w.heap.size, 0, none⟩), .int .i64 (n : Int), v2, .pointer (some ⟨w.heap.size, 1, none⟩), .int .i64 (C : Int), v5, undef, undef, undef, undef, undef, undef, undef, undef, undef, undef, undef, undef, undef, undef, undef, undef, undef, undef, undef, undef, undef, undef, undef, undef, undef, undef, undef, undef, undef, undef, undef, undef, undef, undef, undef, undef, undef, undef, undef, undef, undef, undef, undef, undef, undef, undef, undef, undef, undef, undef, undef, undef, undef, undef, undef, undef, undef, undef, undef, undef, undef, undef, undef, undef, undef, undef, undef, undef, undef, undef, undef], defers := [] })
        (by intros; kernel_rfl) (by intros; kernel_rfl) (by intros; kernel_rfl) (by intros; kernel_rfl) (by intros; kernel_rfl)
        ?hr (by intros; kernel_rfl) (by intros; kernel_rfl) (by intros; kernel_rfl) (by intros; kernel_rfl) ?h6 ?h7 ?h8
        w4.drew (fun wx hb => hSW wx ((Below.refl _ _).drew.trans (hb.mono (Nat.le_refl _)))) 1 ?hfin 5 false false false false false undef undef undef undef 0 0 0 0 w4.drew rfl ⟨Below.refl _ _, (fun h => by cases h), (fun h => by cases h), (fun h => by cases h), (fun h => by cases h), (fun h => by cases h), (fun h => by cases h), (fun h => by cases h), (fun h => by cases h), (fun h => by cases h), (fun h => by cases h), (fun h => by cases h)⟩
      case hr =>
        intro b2 b5 b6 b7 b8 h1 h2
        cases b2 <;> cases b5 <;> cases b6 <;> cases b7 <;> cases b8 <;> first | (exact absurd h1 (by decide)) | (exact absurd (h2 rfl) (by decide)) | decide +kernel
      case h6 =>
        intro v2 v5 v6 v7 w9 K' h
        go_simp
        exact h
      case h7 =>
        intro v2 v5 v6 v7 w9 K' h
        go_simp
        exact h
      case h8 =>
        intro g2 g6 v5 v7 w9 K' hc hf h
        go_simp
        exact h
      case hfin =>
        intro v2 v5 v6 v7 g2 g5 g6 g7 w9 hM
        obtain ⟨rfl, a2, r2⟩ := hM.m2 rfl
        obtain ⟨rfl, a5, r5⟩ := hM.m5 rfl
        obtain ⟨rfl, a6, r6⟩ := hM.m6 rfl
        obtain ⟨rfl, a7, r7⟩ := hM.m7 rfl
        have d25 := hM.d25 rfl rfl
        have d26 := hM.d26 rfl rfl
        have d27 := hM.d27 rfl rfl
        have d56 := hM.d56 rfl rfl
        have d57 := hM.d57 rfl rfl
        have d67 := hM.d67 rfl rfl
        have hlo : Below w4.heap.size w4 w9 := (Below.refl _ _).drew.trans (hM.lo.mono (Nat.le_refl _))
        have r6 : Blk w9 g6 23 #[.slice (some ⟨g2, 0, none⟩) n n] := r6
        have c7 := r7.cell 0
        have f7 := r7.frozen 0
        clear hM hSS
        refine AnyK.one (i := 9) (by kernel_rfl) rfl (fun K' hK => ?_)
        go_simp
        refine hK.out _ _ (fun _ => hSW _ (hlo.setCell (by show _ ≤ g7; exact a7) _)) ?_
        clear hK
        (try simp only [Act.put, List.setIfInBounds_toArray, List.set_cons_zero, List.set_cons_succ])
        refine AnyK.done (by kernel_rfl) ?_ _
        go_wp2_with fail
        go_meet
        exact ⟨g2, g5, g6, g7, rfl, rfl, ⟨a2, a5, a6, a7⟩, ⟨d25, d26, d27, d56, d57, d67⟩, r6.far (by show g6 ≠ g7; exact d67) _, r7.set 0 _, r2.other d27 _ _, r5.other d57 _ _, hlo.setCell (by show _ ≤ g7; exact a7) _⟩
    case rest =>
      obtain ⟨gR, gC, gRB, gCB, rfl, rfl, ⟨l0, l1, l2, l3⟩, ⟨d0, d1, d2, d3, d4, d5⟩, hRB, hCB, hfR, hfC, hb5⟩ := hcut
      obtain ⟨z, hz⟩ : ∃ z, z = WT.mk gRB w.heap.size gCB gP 0 gR gC gr gc w.heap.size A c n C E row col := ⟨_, rfl⟩
      have hsl : w.heap.size < w4.heap.size := hO4.out.b0.lt
      have hF : Hid (HF z w) := by
        have h1 := hP4.lt
        have h2 := hrr4.lt
        have h3 := hrc4.lt
        rw [hz]
        refine ⟨⟨by show w.heap.size ≤ gR; omega, by show w.heap.size ≤ gC; omega, by show w.heap.size ≤ gR; omega, by show w.heap.size ≤ gC; omega⟩, d0, fun g hg => ?_⟩
        have hg' : g = gRB ∨ g = w.heap.size ∨ g = gCB ∨ g = gP ∨ g = gr ∨ g = gc := by simpa using hg
        show g ≠ gR ∧ g ≠ gC
        omega
      have hH : Hid (HS z w (fun x => if x < 0 then 1 else 0) (fun _ => 0) wc) := by
        have hlo := (hO4.out.call hb5).1
        rw [hz]
        exact ⟨hlo, hRB, (hO4.out.call hb5).b0, hCB, hP4.call hb5, hN.below hlo, hrr4.call hb5, hrc4.call hb5, RF.congr hfR (fun x _ => (if_neg (by omega)).symm), hfC, hlo.size⟩
      have hX : Hid (∀ fR fC wx, HS z w fR fC wx → Blk wx gRB 23 #[.slice (some ⟨gR, 0, none⟩) n n] ∧ Blk wx gCB 23 #[.slice (some ⟨gC, 0, none⟩) C C] ∧ Blk wx gP 62 #[.slice (some ⟨gr, 0, none⟩) n n, .slice (some ⟨gc, 0, none⟩) C C] ∧ RF wx gr n row ∧ RF wx gc C col ∧ RF wx gR n fR ∧ RF wx gC C fC ∧ Blk wx w.heap.size 33 #[.int .i64 (n : Int), .int .i64 (C : Int), .slice A n c]) := by
        intro fR fC wx h
        rw [hz] at h
        exact ⟨h.bRB, h.bCB, h.bP, h.row, h.col, h.rR, h.rC, h.bM⟩
      have hSR : Hid (∀ fR fC wx (i : Nat) (x : Int), HS z w fR fC wx → HS z w (upd fR i x) fC (wx.setCell ⟨gR, i, none⟩ (.int .i64 x))) := by
        intro fR fC wx i x h
        have h2 := h.setR hF.out i x
        rw [show z.gR = gR by rw [hz]] at h2
        exact h2
      have hSC : Hid (∀ fR fC wx (i : Nat) (x : Int), HS z w fR fC wx → HS z w fR (upd fC i x) (wx.setCell ⟨gC, i, none⟩ (.int .i64 x))) := by
        intro fR fC wx i x h
        have h2 := h.setC hF.out i x
        rw [show z.gC = gC by rw [hz]] at h2
        exact h2
      have hz' := Lib.hid hz
      clear hz hsl hRB hCB hfR hfC hb5 hP4 hrr4 hrc4 hO4 l0 l1 l2 l3 d0 d1 d2 d3 d4 d5 m0 m1 m2 hg3
      obtain ⟨bRB, -, -, -, -, -, -, -⟩ := hX.out _ _ _ hH.out
      have cRB := bRB.cell 0
      clear bRB
      go_wp2_with fail
      clear cRB
      go_loopw [33] (fun v33 wr => ∃ i : Nat, i ≤ n ∧ v33 = .int .i64 (i : Int) ∧ Hid (HS z w (fun x => if x < i then 1 else 0) (fun _ => 0) wr)) (fun i _ => n - (intOf i).toNat)
      case atStart => exact ⟨0, by omega, rfl, hH⟩
      case round =>
        clear hH
        obtain ⟨i, hi, rfl, hH⟩ := hrel
        by_cases hin : i < n
        · obtain ⟨bRB, -, -, -, -, rR, -, -⟩ := hX.out _ _ _ hH.out
          have cRB := bRB.cell 0
          have cRi := rR.cell hin
          have fRi := rR.frozen i
          have hini : (i : Int) < (n : Int) := by omega
          have hH2 : Hid (HS z w (fun x => if x < i + 1 then 1 else 0) (fun _ => 0) (wr.setCell ⟨gR, i, none⟩ (.int .i64 1))) := by
            refine (hSR.out _ _ _ i 1 hH.out).congr (fun x _ => ?_) (fun _ _ => rfl)
            unfold upd
            by_cases e : x = i
            · rw [if_pos e, if_pos (by omega)]
            · rw [if_neg e]
              show (if x < i then (1 : Int) else 0) = _
              by_cases e2 : x < i
              · rw [if_pos e2, if_pos (by omega)]
              · rw [if_neg e2, if_neg (by omega)]
          clear hH bRB rR
          go_wp2_with fail
          go_roundw
          case rel => exact ⟨i + 1, by omega, by go_num, hH2⟩
          case measure => simp [intOf]; omega
        · have hin' : n = i := by omega
          subst hin'
          have hH2 : Hid (HS z w (mrk fun _ => false) (fun x => if x < 0 then 1 else 0) wr) := hH.out.congr (fun x hx => by
            rw [show z.R = n by rw [hz'.out]] at hx
            rw [if_pos hx]; rfl) (fun x _ => (if_neg (by omega)).symm)
          obtain ⟨-, bCB, -, -, -, -, -, -⟩ := hX.out _ _ _ hH2.out
          have cCB := bCB.cell 0
          clear hH bCB
          go_wp2_with fail
          clear cCB
          go_loopw [42] (fun v42 wr => ∃ k : Nat, k ≤ C ∧ v42 = .int .i64 (k : Int) ∧ Hid (HS z w (mrk fun _ => false) (fun x => if x < k then 1 else 0) wr)) (fun i _ => C - (intOf i).toNat)
          case atStart => exact ⟨0, by omega, rfl, hH2⟩
          case round =>
            clear hH2
            obtain ⟨k, hk, rfl, hH⟩ := hrel
            by_cases hkC : k < C
            · obtain ⟨-, bCB, -, -, -, -, rC, -⟩ := hX.out _ _ _ hH.out
              have cCB := bCB.cell 0
              have cCk := rC.cell hkC
              have fCk := rC.frozen k
              have hkCi : (k : Int) < (C : Int) := by omega
              have hH2 : Hid (HS z w (mrk fun _ => false) (fun x => if x < k + 1 then 1 else 0) (wr.setCell ⟨gC, k, none⟩ (.int .i64 1))) := by
                refine (hSC.out _ _ _ k 1 hH.out).congr (fun _ _ => rfl) (fun x _ => ?_)
                unfold upd
                by_cases e : x = k
                · rw [if_pos e, if_pos (by omega)]
                · rw [if_neg e]
                  show (if x < k then (1 : Int) else 0) = _
                  by_cases e2 : x < k
                  · rw [if_pos e2, if_pos (by omega)]
                  · rw [if_neg e2, if_neg (by omega)]
              clear hH bCB rC
              go_wp2_with fail
              go_roundw
              case rel => exact ⟨k + 1, by omega, by go_num, hH2⟩
              case measure => simp [intOf]; omega
            · have hkC' : C = k := by omega
              subst hkC'
              have hH2 : Hid (HS z w (mrk fun _ => false) (mrk fun _ => false) wr) := hH.out.congr (fun _ _ => rfl) (fun x hx => by
                rw [show z.C = C by rw [hz'.out]] at hx
                rw [if_pos hx]; rfl)
              clear hH
              go_upto_region 18 with fail
              obtain ⟨w6, hw6⟩ : ∃ w6, w6 = wr.alloc (.cells #[.func (.func 44) #[] #[.pointer (some ⟨gRB, 0, none⟩), .pointer (some ⟨w.heap.size, 0, none⟩), .pointer (some ⟨gCB, 0, none⟩), .pointer (some ⟨gP, 0, none⟩), .pointer (some ⟨wr.heap.size, 0, none⟩)]] 65) := ⟨_, rfl⟩
              have hOb : Blk w6 wr.heap.size 65 #[.func (.func 44) #[] #[.pointer (some ⟨gRB, 0, none⟩), .pointer (some ⟨w.heap.size, 0, none⟩), .pointer (some ⟨gCB, 0, none⟩), .pointer (some ⟨gP, 0, none⟩), .pointer (some ⟨wr.heap.size, 0, none⟩)]] := by rw [hw6]; exact Blk.new _ _ _
              have hb6 : Below wr.heap.size wr w6 := by rw [hw6]; exact (Below.refl _ _).alloc (Nat.le_refl _) _
              rw [← hw6]
              obtain ⟨gO, hgO⟩ : ∃ gO, gO = wr.heap.size := ⟨_, rfl⟩
              rw [← hgO] at hOb ⊢
              have hH6 := hH2.out.call hb6
              obtain ⟨z1, hz1'⟩ : ∃ z1, z1 = WT.mk gRB w.heap.size gCB gP gO gR gC gr gc w.heap.size A c n C E row col := ⟨_, rfl⟩
              have hne : gO ≠ gR ∧ gO ≠ gC := by
                have h1 := hX.out _ _ _ hH2.out
                have h2 := h1.2.2.2.2.2.1.lt
                have h3 := h1.2.2.2.2.2.2.1.lt
                omega
              have hWF : Hid z1.Fine := by
                have hf := hF.out
                rw [hz'.out] at hf
                rw [hz1']
                refine ⟨hI'.out, ⟨hf.b.1, hf.b.2.1⟩, hf.rc, fun g hg => ?_, fun k hk h0 => (hmx.out.co.ca k hk h0).1⟩
                have hg' : g = gRB ∨ g = w.heap.size ∨ g = gCB ∨ g = gP ∨ g = gO ∨ g = gr ∨ g = gc := by simpa using hg
                have hn := hf.no
                rcases hg' with h | h | h | h | h | h | h
                · rw [h]; exact hn gRB (by simp)
                · rw [h]; exact hn w.heap.size (by simp)
                · rw [h]; exact hn gCB (by simp)
                · rw [h]; exact hn gP (by simp)
                · rw [h]; exact hne
                · rw [h]; exact hn gr (by simp)
                · rw [h]; exact hn gc (by simp)
              have hW : Hid (WS z1 (goPA E n row col 0) w6) := by
                have h := hH6
                rw [hz'.out] at h
                rw [hz1']
                exact ⟨h.bRB, h.bM, h.bCB, h.bP, hOb, h.en, h.row, h.col, h.rR, h.rC, h.sz⟩
              have hlo6 : Hid (Below w.heap.size w w6) := hH6.lo
              have hWx : Hid (∀ st wx, WS z1 st wx → RF wx gr n row ∧ Blk wx gP 62 #[.slice (some ⟨gr, 0, none⟩) n n, .slice (some ⟨gc, 0, none⟩) C C] ∧ Blk wx gO 65 #[.func (.func 44) #[] #[.pointer (some ⟨gRB, 0, none⟩), .pointer (some ⟨w.heap.size, 0, none⟩), .pointer (some ⟨gCB, 0, none⟩), .pointer (some ⟨gP, 0, none⟩), .pointer (some ⟨gO, 0, none⟩)]]) := by
                intro st wx h
                rw [hz1'] at h
                exact ⟨h.row, h.bP, h.bO⟩
              have hgo : Hid (∀ (i : Nat) (st : CR) (wx : World), i < n → uns n st.rs < n + 1 → WS z1 st wx → Calls Try.prog 44 #[.int .i64 (i : Int), .pointer (some ⟨gRB, 0, none⟩), .pointer (some ⟨w.heap.size, 0, none⟩), .pointer (some ⟨gCB, 0, none⟩), .pointer (some ⟨gP, 0, none⟩), .pointer (some ⟨gO, 0, none⟩)] wx (PWp z1 wx (goP E col (n + 1) i st))) := by
                intro i st wx h1 h2 h3
                have h := go_over z1 hWF.out (n + 1) i st wx (by rw [hz1']; exact h1) (by rw [hz1']; exact h2) h3
                rw [hz1'] at h ⊢
                exact h
              have hWb : Hid (∀ wx wy, Fr [z1.gR, z1.gC] wx wy → Below w.heap.size w wx → Below w.heap.size w wy) := by
                intro wx wy h1 h2
                refine h2.trans (h1.below h2.size ?_)
                have hf := hF.out
                rw [hz'.out] at hf
                rw [hz1']
                have := hf.b
                simp
                exact ⟨this.2.2.1, this.2.2.2⟩
              have hback : Hid (∀ st wx, WS z1 st wx → Below w.heap.size w wx → HS z w (mrk st.rs) (mrk st.cs) wx) := by
                intro st wx h hb
                rw [hz1'] at h
                rw [hz'.out]
                exact ⟨hb, h.bRB, h.bM, h.bCB, h.bP, h.en, h.row, h.col, h.rs, h.cs, h.sz⟩
              clear hw6 hgO hH6 hz1' hne hb6 hOb hH2
              obtain ⟨rW, bP, bO⟩ := hWx.out _ _ hW.out
              have cP0 := bP.cell 0
              clear rW bP bO
              go_wp2_with fail
              clear cP0
              go_loopw [53] (fun v53 wr => ∃ i : Nat, i ≤ n ∧ v53 = .int .i64 (i : Int) ∧ Hid (WS z1 (goPA E n row col i) wr) ∧ Hid (Below w.heap.size w wr)) (fun i _ => n - (intOf i).toNat)
              case atStart => exact ⟨0, by omega, rfl, hW, hlo6⟩
              case round =>
                clear hW hlo6
                obtain ⟨i, hi, rfl, hW, hlo⟩ := hrel
                by_cases hin : i < n
                · obtain ⟨rW, -, bO⟩ := hWx.out _ _ hW.out
                  have cRi := rW.cell hin
                  have cO := bO.cell 0
                  clear rW bO
                  by_cases hp : row i < 0
                  · have hp' : decide (row i < 0) = true := by simpa using hp
                    have hst : Hid (goPA E n row col (i + 1) = goP E col (n + 1) i (goPA E n row col i)) := if_pos hp
                    clear hp
                    go_wp2_with (go_at_call 44; refine (hgo.out i _ _ hin (by have := uns_all n (goPA E n row col i).rs; omega) hW.out).mono ?_; rintro e w7 ⟨rfl, hW7, hf7⟩)
                    have hlo7 : Hid (Below w.heap.size w w7) := hWb.out _ _ hf7 hlo.out
                    go_roundw
                    case rel => exact ⟨i + 1, by omega, by go_num, by rw [hst.out]; exact hW7, hlo7⟩
                    case measure => simp [intOf]; omega
                  · have hp' : decide (row i < 0) = false := by simpa using hp
                    have hst : Hid (goPA E n row col (i + 1) = goPA E n row col i) := if_neg hp
                    clear hp
                    go_wp2_with fail
                    go_roundw
                    case rel => exact ⟨i + 1, by omega, by go_num, by rw [hst.out]; exact hW, hlo⟩
                    case measure => simp [intOf]; omega
                · have hin' : n = i := by omega
                  subst hin'
                  have hH := Lib.hid (hback.out _ _ hW.out hlo.out)
                  obtain ⟨ov, hov⟩ : ∃ ov, Hid (ov = goPA E n row col n) := ⟨_, rfl⟩
                  rw [← hov.out] at hH
                  obtain ⟨rs, hrs⟩ : ∃ rs, Hid (rs = (goA E C row col C).rs) := ⟨_, rfl⟩
                  have hrl : Hid (∀ r, r < n → 0 ≤ row r → (row r).toNat < C) := fun r hr hp => (hmx.out.co.ra r hr hp).1
                  have hrch : Hid (∀ r, rs r = true → 0 ≤ row r) := fun r h => by
                    rw [hrs.out, goA_spec hmx.out hI'.out.2.2.1] at h
                    exact Rch.paired hmx.out h
                  obtain ⟨-, -, bP, rW, rC, -, -, bM⟩ := hX.out _ _ _ hH.out
                  obtain ⟨m0, m1, m2⟩ := cells3 bM
                  obtain ⟨k0, k1, -⟩ := blkP bP
                  have hre := Lib.hid (m_reached hI'.out row col hrl.out w.heap.size A c gr gc wr hH.out.lo.size (hN.below hH.out.lo) rW rC)
                  rw [← hrs.out] at hre
                  clear hW hlo bP rW rC bM
                  go_upto_region 25 with (go_at_call 45; (with_reducible refine hre.out.mono ?_); rintro e w7 ⟨t, t1, ht64, htb, rfl, hb7⟩)
                  obtain ⟨w8, hw8⟩ : ∃ w8, w8 = w7.alloc (.cells #[.int .u64 (t : Int), .int .u64 (t1 : Int)] 55) := ⟨_, rfl⟩
                  have hBU : Blk w8 w7.heap.size 55 #[.int .u64 (t : Int), .int .u64 (t1 : Int)] := by rw [hw8]; exact Blk.new _ _ _
                  have hb8 : Below wr.heap.size wr w8 := by rw [hw8]; exact hb7.trans ((Below.refl _ _).alloc hb7.size _)
                  rw [← hw8]
                  obtain ⟨gU, hgU⟩ : ∃ gU, gU = w7.heap.size := ⟨_, rfl⟩
                  have hneU : Hid (gU ≠ gR ∧ gU ≠ gC) := by
                    have h1 := hX.out _ _ _ hH.out
                    have h2 := h1.2.2.2.2.2.1.lt
                    have h3 := h1.2.2.2.2.2.2.1.lt
                    have h4 := hb7.size
                    show _ ∧ _
                    omega
                  rw [← hgU] at hBU ⊢
                  have hH8 : Hid (HS z w (fun x => if x < 0 ∧ rs x = true then 2 else mrk ov.rs x) (fun k => if anyr rs row 0 k = true then 2 else mrk ov.cs k) w8) := (hH.out.call hb8).congr (fun x _ => (if_neg (by omega)).symm) (fun x _ => (if_neg (by simp [anyr])).symm)
                  have hBU' := Lib.hid hBU
                  have htb' := Lib.hid htb
                  clear hH hgU hw8 hb8 hb7 hBU htb hre m0 m1 m2 k0 k1
                  obtain ⟨-, -, -, -, -, -, -, bM⟩ := hX.out _ _ _ hH8.out
                  obtain ⟨m0, m1, m2⟩ := cells3 bM
                  clear bM
                  go_wp2_with fail
                  clear m0 m1 m2
                  go_loopw [69] (fun v69 wr => ∃ i : Nat, i ≤ n ∧ v69 = .int .i64 (i : Int) ∧ Hid (HS z w (fun x => if x < i ∧ rs x = true then 2 else mrk ov.rs x) (fun k => if anyr rs row i k = true then 2 else mrk ov.cs k) wr) ∧ Hid (Blk wr gU 55 #[.int .u64 (t : Int), .int .u64 (t1 : Int)])) (fun i _ => n - (intOf i).toNat)
                  case atStart => exact ⟨0, by omega, rfl, hH8, hBU'⟩
                  case round =>
                    clear hH8 hBU'
                    obtain ⟨i, hi, rfl, hH, hU⟩ := hrel
                    have hanyr : Hid (∀ k, anyr rs row (i + 1) k = (anyr rs row i k || (rs i && (row i == (k : Int))))) := fun k => by
                      unfold anyr
                      rw [List.range_succ, List.any_append]
                      simp
                    by_cases hin : i < n
                    · have hini : (i : Int) < (n : Int) := by omega
                      have htk : t.testBit i = rs i := htb'.out i (by omega)
                      have cU0 := hU.out.cell 0
                      have cU1 := hU.out.cell 1
                      cases hsi : rs i with
                      | false =>
                        rw [hsi] at htk
                        have hH2 : Hid (HS z w (fun x => if x < i + 1 ∧ rs x = true then 2 else mrk ov.rs x) (fun k => if anyr rs row (i + 1) k = true then 2 else mrk ov.cs k) wr) := hH.out.congr (fun x _ => by
                          by_cases e : x = i
                          · rw [e, if_neg (by omega), if_neg (by rw [hsi]; simp)]
                          · by_cases e2 : x < i ∧ rs x = true
                            · rw [if_pos e2, if_pos ⟨by omega, e2.2⟩]
                            · rw [if_neg e2, if_neg (fun h => e2 ⟨by omega, h.2⟩)]) (fun x _ => by rw [hanyr.out, hsi]; simp)
                        clear hH hsi
                        go_wp2_with (go_at_call 33; refine (m_has t t1 i _ (by omega) ht64).mono ?_; rintro e w9 ⟨rfl, hb9⟩; rw [htk]; have hH9 := Lib.hid (hH2.out.call hb9); have hU9 := Lib.hid (hU.out.call hb9))
                        go_roundw
                        case rel => exact ⟨i + 1, by omega, by go_num, hH9, hU9⟩
                        case measure => simp [intOf]; omega
                      | true =>
                        rw [hsi] at htk
                        have hri0 := hrch.out i hsi
                        obtain ⟨k, hk⟩ : ∃ k : Nat, row i = (k : Int) := ⟨(row i).toNat, by omega⟩
                        have hkC : k < C := by have := hrl.out i hin hri0; omega
                        have hkCi : (k : Int) < (C : Int) := by omega
                        go_upto_region 29 with (go_at_call 33; refine (m_has t t1 i _ (by omega) ht64).mono ?_; rintro e w9 ⟨rfl, hb9⟩; rw [htk]; have hH9 := Lib.hid (hH.out.call hb9); have hU9 := Lib.hid (hU.out.call hb9))
                        obtain ⟨bRB, -, -, -, -, rR, -, -⟩ := hX.out _ _ _ hH9.out
                        have cRB := bRB.cell 0
                        have cRi := rR.cell hin
                        have fRi := rR.frozen i
                        have hH10 := Lib.hid (hSR.out _ _ _ i 2 hH9.out)
                        have hU10 := Lib.hid (hU9.out.far (p := ⟨gR, i, none⟩) (by show gU ≠ gR; exact hneU.out.1) (.int .i64 2))
                        clear hH hU bRB rR cU0 cU1 hb9
                        go_upto_region 30 with fail
                        obtain ⟨w10, hw10⟩ : ∃ w10, w10 = w9.setCell ⟨gR, i, none⟩ (.int .i64 2) := ⟨_, rfl⟩
                        rw [← hw10] at hH10 hU10 ⊢
                        clear hw10 cRB cRi fRi hH9 hU9
                        obtain ⟨-, bCB, bP, rW, -, -, rC, -⟩ := hX.out _ _ _ hH10.out
                        have cCB := bCB.cell 0
                        have cP0 := bP.cell 0
                        have cWi := rW.cell hin
                        rw [hk] at cWi
                        have cCk := rC.cell hkC
                        have fCk := rC.frozen k
                        have hH11 : Hid (HS z w (fun x => if x < i + 1 ∧ rs x = true then 2 else mrk ov.rs x) (fun k => if anyr rs row (i + 1) k = true then 2 else mrk ov.cs k) (w10.drew.setCell ⟨gC, k, none⟩ (.int .i64 2))) := (hSC.out _ _ _ k 2 (hH10.out.call ((Below.refl _ _).drew))).congr (fun x _ => by
                          unfold upd
                          by_cases e : x = i
                          · rw [if_pos e, e, if_pos ⟨by omega, hsi⟩]
                          · rw [if_neg e]
                            try dsimp only
                            by_cases e2 : x < i ∧ rs x = true
                            · rw [if_pos e2, if_pos ⟨by omega, e2.2⟩]
                            · rw [if_neg e2, if_neg (fun h => e2 ⟨by omega, h.2⟩)]) (fun x _ => by
                          unfold upd
                          rw [hanyr.out, hsi, hk]
                          by_cases e : x = k
                          · rw [if_pos e, e, if_pos (by simp)]
                          · rw [if_neg e]
                            try dsimp only
                            have : ((k : Int) == (x : Int)) = false := by simp; omega
                            rw [this]
                            simp)
                        have hU11 : Hid (Blk (w10.drew.setCell ⟨gC, k, none⟩ (.int .i64 2)) gU 55 #[.int .u64 (t : Int), .int .u64 (t1 : Int)]) := (hU10.out.drew).far (p := ⟨gC, k, none⟩) (by show gU ≠ gC; exact hneU.out.2) _
                        clear hsi hk hri0 bCB bP rW rC hH10 hU10
                        go_region
                        go_wp2_with fail
                        go_roundw
                        case rel => exact ⟨i + 1, by omega, by go_num, hH11, hU11⟩
                        case measure => simp [intOf]; omega
                    · have hin' : n = i := by omega
                      subst hin'
                      have hH2 : Hid (HS z w (prow E n C row col) (fun k => if k < 0 ∧ col k < 0 then 2 else if anyr rs row n k = true then 2 else mrk ov.cs k) wr) := hH.out.congr (fun x hx => by
                        rw [show z.R = n by rw [hz'.out]] at hx
                        unfold prow
                        rw [← hrs.out, ← hov.out]
                        by_cases e : rs x = true
                        · rw [if_pos ⟨hx, e⟩, if_pos e]
                        · rw [if_neg (fun h => e h.2), if_neg e]) (fun x _ => (if_neg (fun h => by omega)).symm)
                      clear hH hU
                      obtain ⟨-, -, bP, -, -, -, -, -⟩ := hX.out _ _ _ hH2.out
                      have cP1 : wr.cell? ⟨gP, 1, none⟩ = some (.slice (some ⟨gc, 0, none⟩) C C) := bP.cell 1
                      clear bP
                      go_wp2_with fail
                      clear cP1
                      go_loopw [89] (fun v89 wr => ∃ j : Nat, j ≤ C ∧ v89 = .int .i64 (j : Int) ∧ Hid (HS z w (prow E n C row col) (fun k => if k < j ∧ col k < 0 then 2 else if anyr rs row n k = true then 2 else mrk ov.cs k) wr)) (fun j _ => C - (intOf j).toNat)
                      case atStart => exact ⟨0, by omega, rfl, hH2⟩
                      case round =>
                        clear hH2
                        obtain ⟨j, hj, rfl, hH⟩ := hrel
                        by_cases hjC : j < C
                        · have hjCi : (j : Int) < (C : Int) := by omega
                          obtain ⟨-, bCB, -, -, cW, -, rC, -⟩ := hX.out _ _ _ hH.out
                          have cCB := bCB.cell 0
                          have cWj := cW.cell hjC
                          have cCj := rC.cell hjC
                          have fCj := rC.frozen j
                          clear bCB cW rC
                          by_cases hp : col j < 0
                          · have hp' : decide (col j < 0) = true := by simpa using hp
                            have hH2 : Hid (HS z w (prow E n C row col) (fun k => if k < j + 1 ∧ col k < 0 then 2 else if anyr rs row n k = true then 2 else mrk ov.cs k) (wr.setCell ⟨gC, j, none⟩ (.int .i64 2))) := (hSC.out _ _ _ j 2 hH.out).congr (fun _ _ => rfl) (fun x _ => by
                              unfold upd
                              by_cases e : x = j
                              · rw [if_pos e, e, if_pos ⟨by omega, hp⟩]
                              · rw [if_neg e]
                                try dsimp only
                                by_cases e2 : x < j ∧ col x < 0
                                · rw [if_pos e2, if_pos ⟨by omega, e2.2⟩]
                                · rw [if_neg e2, if_neg (show ¬ (x < j + 1 ∧ col x < 0) from fun h => e2 ⟨by omega, h.2⟩)])
                            clear hp hH
                            go_wp2_with fail
                            go_roundw
                            case rel => exact ⟨j + 1, by omega, by go_num, hH2⟩
                            case measure => simp [intOf]; omega
                          · have hp' : decide (col j < 0) = false := by simpa using hp
                            have hH2 : Hid (HS z w (prow E n C row col) (fun k => if k < j + 1 ∧ col k < 0 then 2 else if anyr rs row n k = true then 2 else mrk ov.cs k) wr) := hH.out.congr (fun _ _ => rfl) (fun x _ => by
                              by_cases e : x = j
                              · rw [e, if_neg (show ¬ (j < j ∧ col j < 0) from fun h => hp h.2), if_neg (show ¬ (j < j + 1 ∧ col j < 0) from fun h => hp h.2)]
                              · by_cases e2 : x < j ∧ col x < 0
                                · rw [if_pos e2, if_pos ⟨by omega, e2.2⟩]
                                · rw [if_neg e2, if_neg (show ¬ (x < j + 1 ∧ col x < 0) from fun h => e2 ⟨by omega, h.2⟩)])
                            clear hp hH
                            go_wp2_with fail
                            go_roundw
                            case rel => exact ⟨j + 1, by omega, by go_num, hH2⟩
                            case measure => simp [intOf]; omega
                        · have hjC' : C = j := by omega
                          subst hjC'
                          have hH2 : Hid (HS z w (prow E n C row col) (pcol E n C row col) wr) := hH.out.congr (fun _ _ => rfl) (fun x hx => by
                            rw [show z.C = C by rw [hz'.out]] at hx
                            unfold pcol
                            rw [← hrs.out, ← hov.out]
                            by_cases e : col x < 0
                            · rw [if_pos ⟨hx, e⟩, if_pos e]
                            · rw [if_neg (fun h => e h.2), if_neg e])
                          clear hH
                          obtain ⟨bRB, bCB, -, -, -, rR, rC, -⟩ := hX.out _ _ _ hH2.out
                          have cRB := bRB.cell 0
                          have cCB := bCB.cell 0
                          have hi1 := Lib.hid ((rR.drew).il (by omega))
                          have hi2 := Lib.hid ((rC.drew).il (by omega))
                          have hlo := Lib.hid (hH2.out.lo.drew)
                          clear bRB bCB rR rC hH2
                          go_upto_region 38 with fail
                          go_region
                          go_wp2_with fail
                          go_ret3
                          exact ⟨_, _, _, _, _, _, _, _, _, rfl, hi1.out, hi2.out, hS, hlo.out⟩
  · rw [h1] at hV
    have hV' := Lib.hid hV
    have hS : Hid (partsS rows cols ls = ([], [], 1)) := if_neg (by rw [h1]; omega)
    clear hV h1
    unfold PPt
    obtain ⟨S, hS2⟩ : ∃ S, S = partsS rows cols ls := ⟨_, rfl⟩
    rw [← hS2] at hS ⊢
    clear hS2 hO
    go_enter Try.func16, Try.ntmps16
    go_wp2_with (first
      | (go_at_call 27; (with_reducible refine hV'.out.mono ?_); rintro e w2 ⟨rfl, hb2⟩; have hO2 := Lib.hid (hO'.out.call hb2)))
    go_ret3
    exact ⟨_, _, _, _, _, _, _, _, _, rfl, IL.nil _, IL.nil _, hS, hO2.out.1⟩

end Go.Proofs.Ytjbhnfejpgjghaa
