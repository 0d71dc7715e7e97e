/- Rows of the call's own as functions; frames. -/
import Derived.Test.YtgjmbmlmopomgaaCl
namespace Go.Proofs.Ytgjmbmlmopomgaa
open Go.RowKit
set_option linter.unusedSimpArgs false
set_option linter.unusedVariables false

def upd {α : Type} (f : Nat → α) (i : Nat) (v : α) : Nat → α := fun j => if j = i then v else f j
theorem upd_same {α : Type} (f : Nat → α) (i : Nat) (v : α) : upd f i v i = v := by simp [upd]
theorem upd_other {α : Type} (f : Nat → α) (i j : Nat) (v : α) (h : j ≠ i) : upd f i v j = f j := by simp [upd, h]

/-- the world is as it was, but for new blocks and the blocks xs -/
structure Fr (xs : List Nat) (w w' : World) : Prop where
  os : w'.os = w.os
  tape : w'.tape = w.tape
  output : w'.output = w.output
  size : w.heap.size ≤ w'.heap.size
  block : ∀ j, j < w.heap.size → j ∉ xs → w'.heap[j]? = w.heap[j]?
section
variable {xs : List Nat} {w w1 w2 : World}
theorem Fr.refl (xs : List Nat) (w : World) : Fr xs w w := ⟨rfl, rfl, rfl, Nat.le_refl _, fun _ _ _ => rfl⟩
theorem Fr.trans (h : Fr xs w w1) (k : Fr xs w1 w2) : Fr xs w w2 :=
  ⟨k.os.trans h.os, k.tape.trans h.tape, k.output.trans h.output, Nat.le_trans h.size k.size, fun j hj hx => (k.block j (Nat.lt_of_lt_of_le hj h.size) hx).trans (h.block j hj hx)⟩
theorem Fr.call (h : Fr xs w w1) (k : Below w1.heap.size w1 w2) : Fr xs w w2 := h.trans ⟨k.os, k.tape, k.output, k.size, fun j hj _ => k.block j hj⟩
theorem Fr.drew (h : Fr xs w w1) : Fr xs w w1.drew := ⟨h.os, h.tape, h.output, h.size, h.block⟩
theorem Fr.drewN (h : Fr xs w w1) (n : Nat) : Fr xs w (w1.drewN n) := ⟨h.os, h.tape, h.output, h.size, h.block⟩
theorem Fr.set (h : Fr xs w w1) {p : Addr} (hp : p.block ∈ xs) (u : Value) : Fr xs w (w1.setCell p u) :=
  h.trans ⟨rfl, rfl, rfl, by simp [World.setCell], fun j hj hx => Below.heap_setCell _ _ _ _ (by rintro rfl; exact hx hp)⟩
theorem Fr.alloc (h : Fr xs w w1) (o : Obj) : Fr xs w (w1.alloc o) := h.call ((Below.refl _ _).alloc (Nat.le_refl _) _)
theorem Fr.below (h : Fr xs w w1) {B : Nat} (hB : B ≤ w.heap.size) (hx : ∀ x ∈ xs, B ≤ x) : Below B w w1 :=
  ⟨h.os, h.tape, h.output, h.size, fun j hj => h.block j (by omega) (fun hm => by have := hx j hm; omega)⟩
theorem Fr.blk (h : Fr xs w w1) {g : Nat} {t : TypeId} {cs : Array Value} (hb : Blk w g t cs) (hx : g ∉ xs) : Blk w1 g t cs := (h.block g hb.lt hx).trans hb
theorem Fr.more {ys : List Nat} (h : Fr xs w w1) (hs : ∀ x ∈ xs, x ∈ ys) : Fr ys w w1 := ⟨h.os, h.tape, h.output, h.size, fun j hj hy => h.block j hj fun hx => hy (hs j hx)⟩
end

theorem Blk.set {w : World} {g : Nat} {t : TypeId} {cs : Array Value} (h : Blk w g t cs) (i : Nat) (u : Value) : Blk (w.setCell ⟨g, i, none⟩ u) g t (cs.setIfInBounds i u) := by
  unfold Blk at *
  simp [World.setCell, Array.getElem?_modify, h]

/-- a row of N numbers of the call's own, as a function -/
def RF (w : World) (g N : Nat) (f : Nat → Int) : Prop := RI w g N ((List.range N).map f)
theorem range_set (N : Nat) (f : Nat → Int) (i : Nat) (v : Int) : ((List.range N).map f).set i v = (List.range N).map (upd f i v) := by
  apply List.ext_getElem?
  intro j
  rw [List.getElem?_set]
  by_cases hj : j < N
  · by_cases e : i = j
    · subst e; simp [hj, upd_same]
    · simp [hj, e, upd_other _ _ _ _ (Ne.symm e)]
  · by_cases e : i = j
    · subst e; simp [hj]
    · simp [hj, e]
section
variable {w w' : World} {g N : Nat} {f : Nat → Int}
theorem RF.lt (h : RF w g N f) : g < w.heap.size := RI.lt h
theorem RF.cell (h : RF w g N f) {i : Nat} (hi : i < N) : w.cell? ⟨g, i, none⟩ = some (.int .i64 (f i)) := by
  obtain ⟨x, hx, hc⟩ := RI.cell h hi
  simp [hi] at hx
  rw [hc, hx]
theorem RF.frozen (h : RF w g N f) (i : Nat) : w.frozen? ⟨g, i, none⟩ = false := RI.frozen h i
theorem RF.set (h : RF w g N f) (i : Nat) (v : Int) : RF (w.setCell ⟨g, i, none⟩ (.int .i64 v)) g N (upd f i v) := by
  have := RI.set h i v
  rw [range_set] at this
  exact this
theorem RF.other {g' : Nat} (h : RF w g N f) (hne : g ≠ g') (i : Nat) (u : Value) : RF (w.setCell ⟨g', i, none⟩ u) g N f := RI.other h hne i u
theorem RF.drew (h : RF w g N f) : RF w.drew g N f := h
theorem RF.drewN (h : RF w g N f) (k : Nat) : RF (w.drewN k) g N f := h
theorem RF.call (h : RF w g N f) (hb : Below w.heap.size w w') : RF w' g N f := RI.call h hb
theorem RF.same (h : RF w g N f) (e : w'.heap[g]? = w.heap[g]?) : RF w' g N f := by
  obtain ⟨h1, h2⟩ := h
  refine ⟨h1, ?_⟩
  rcases h2 with ⟨e', -⟩ | ⟨g', cap, cur, e', h3, h4, h5⟩
  · cases e'
  · have e2 : g = g' := by injection e' with e' _ _; injection e' with e'; injection e'
    exact .inr ⟨g', cap, cur, e', h3, by rw [← e2, e, e2]; exact h4, h5⟩
theorem RF.fr {xs : List Nat} (h : RF w g N f) (hf : Fr xs w w') (hx : g ∉ xs) : RF w' g N f := h.same (hf.block g h.lt hx)
end

theorem infoB : (Try.prog.info? 4).map (fun i => (i.zero, i.size, i.bytes)) = some (some (.bool false), 1, 1) := by kernel_rfl
theorem infoB_parts : ∃ i0, Try.prog.info? 4 = some i0 ∧ i0.zero = some (.bool false) ∧ i0.size = 1 ∧ i0.bytes = 1 := by
  have h := infoB
  match hi : Try.prog.info? 4 with
  | none => rw [hi] at h; cases h
  | some i0 =>
    rw [hi] at h
    simp at h
    exact ⟨i0, rfl, h.1, h.2.1, h.2.2⟩

def vb (N : Nat) (f : Nat → Bool) : List Value := (List.range N).map fun i => .bool (f i)
/-- a row of truths of the call's own -/
def RB (w : World) (g N : Nat) (f : Nat → Bool) : Prop := w.ownsRow g 4 1 (.slice (some ⟨g, 0, none⟩) N N) N (vb N f)
section
variable {w w' : World} {g N : Nat} {f : Nat → Bool}
theorem RB.lt (h : RB w g N f) : g < w.heap.size := (World.ownsRow.lt h g rfl).2
theorem RB.cell (h : RB w g N f) {i : Nat} (hi : i < N) : w.cell? ⟨g, i, none⟩ = some (.bool (f i)) := by
  rw [World.ownsRow.cellAt h i (by omega)]
  simp [vb, hi]
theorem RB.frozen (h : RB w g N f) (i : Nat) : w.frozen? ⟨g, i, none⟩ = false := World.ownsRow.frozenAt h i
theorem RB.same (h : RB w g N f) (e : w'.heap[g]? = w.heap[g]?) : RB w' g N f := by
  obtain ⟨h1, h2⟩ := h
  refine ⟨h1, ?_⟩
  rcases h2 with ⟨e', -⟩ | ⟨g', cap, cur, e', h3, h4, h5⟩
  · cases e'
  · have e2 : g = g' := by injection e' with e' _ _; injection e' with e'; injection e'
    exact .inr ⟨g', cap, cur, e', h3, by rw [← e2, e, e2]; exact h4, h5⟩
theorem RB.call (h : RB w g N f) (hb : Below w.heap.size w w') : RB w' g N f := h.same (hb.block g h.lt)
theorem RB.fr {xs : List Nat} (h : RB w g N f) (hf : Fr xs w w') (hx : g ∉ xs) : RB w' g N f := h.same (hf.block g h.lt hx)
theorem RB.drew (h : RB w g N f) : RB w.drew g N f := h
theorem RB.drewN (h : RB w g N f) (k : Nat) : RB (w.drewN k) g N f := h
theorem vb_set (i : Nat) (v : Bool) : (vb N f).set i (.bool v) = vb N (upd f i v) := by
  apply List.ext_getElem?
  intro j
  unfold vb
  rw [List.getElem?_set]
  by_cases hj : j < N
  · by_cases e : i = j
    · subst e
      simp [hj, upd]
    · rw [if_neg e]
      simp [hj, upd, Ne.symm e]
  · by_cases e : i = j
    · subst e
      simp [hj]
    · rw [if_neg e]
      simp [hj]
theorem RB.set (h : RB w g N f) (i : Nat) (v : Bool) : RB (w.setCell ⟨g, i, none⟩ (.bool v)) g N (upd f i v) := by
  have h1 := (World.ownsRow.stored h i (.bool v)).1
  rw [vb_set] at h1
  exact h1
theorem RB.other {g' : Nat} (h : RB w g N f) (hne : g ≠ g') (i : Nat) (u : Value) : RB (w.setCell ⟨g', i, none⟩ u) g N f := h.same (Below.heap_setCell _ _ _ _ hne)
theorem RB.congr {f' : Nat → Bool} (h : RB w g N f) (e : ∀ i, i < N → f i = f' i) : RB w g N f' := by
  unfold RB at *
  have : vb N f' = vb N f := by
    unfold vb
    apply List.map_congr_left
    intro i hi
    rw [e i (List.mem_range.1 hi)]
  rw [this]
  exact h
end
theorem made_vb (N : Nat) : (madeCells (Value.bool false).cells (N * 1)).toList = vb N (fun _ => false) := by
  rw [Nat.mul_one]
  show (madeCells #[Value.bool false] N).toList = _
  rw [toList_madeCells_one]
  unfold vb
  apply List.ext_getElem?
  intro j
  by_cases hj : j < N
  · simp [hj, List.getElem?_replicate]
  · simp [hj, List.getElem?_replicate]
theorem RB.made {w w' : World} {B N : Nat} (h : w'.ownsRow B 4 1 (.slice (some ⟨w.heap.size, 0, none⟩) N N) N (madeCells (Value.bool false).cells (N * 1)).toList) : RB w' w.heap.size N (fun _ => false) := by
  rw [made_vb] at h
  obtain ⟨h1, h2⟩ := h
  refine ⟨h1, ?_⟩
  rcases h2 with ⟨e, -⟩ | ⟨g', cap, cur, e, h3, h4⟩
  · cases e
  · have e2 : w.heap.size = g' := by injection e with e _ _; injection e with e; injection e
    exact .inr ⟨g', cap, cur, e, by omega, h4⟩


theorem raw_rb {w : World} {g N : Nat} (h : w.ownsRow g 4 1 (.slice (some ⟨g, 0, none⟩) N N) N (madeCells (Value.bool false).cells (N * 1)).toList) : RB w g N (fun _ => false) := by
  rw [made_vb] at h
  exact h

end Go.Proofs.Ytgjmbmlmopomgaa
