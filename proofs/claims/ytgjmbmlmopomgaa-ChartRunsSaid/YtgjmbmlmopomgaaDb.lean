/- Rows of the call's own with any capacity, as functions; owned. -/
import Derived.Test.YtgjmbmlmopomgaaDa
namespace Go.Proofs.Ytgjmbmlmopomgaa
open Go.RowKit Go.Maps
set_option linter.unusedSimpArgs false
set_option linter.unusedVariables false

/-- a row of N values with room for cap, of the call's own -/
def RW (w : World) (e : TypeId) (g N cap : Nat) (vs : Nat → Value) : Prop := w.ownsRow g e 1 (.slice (some ⟨g, 0, none⟩) N cap) N ((List.range N).map vs)
theorem range_upd (N : Nat) (f : Nat → Value) (i : Nat) (v : Value) : ((List.range N).map f).set i v = (List.range N).map (upd f i v) := by
  apply List.ext_getElem?
  intro j
  rw [List.getElem?_set]
  by_cases hj : j < N
  · by_cases e : i = j
    · subst e; simp [hj, upd_same]
    · simp [hj, e, upd_other _ _ _ _ (Ne.symm e)]
  · by_cases e : i = j
    · subst e; simp [hj]
    · simp [hj, e]
section
variable {w w' : World} {e : TypeId} {g N cap : Nat} {f : Nat → Value}
theorem RW.lt (h : RW w e g N cap f) : g < w.heap.size := (World.ownsRow.lt h g rfl).2
theorem RW.cell (h : RW w e g N cap f) {i : Nat} (hi : i < N) : w.cell? ⟨g, i, none⟩ = some (f i) := by
  rw [World.ownsRow.cellAt h i (by omega)]
  simp [hi]
theorem RW.frozen (h : RW w e g N cap f) (i : Nat) : w.frozen? ⟨g, i, none⟩ = false := World.ownsRow.frozenAt h i
theorem RW.same (h : RW w e g N cap f) (eq : w'.heap[g]? = w.heap[g]?) : RW w' e g N cap f := OR.same h fun g' e' => by
  have : g = g' := by simpa [Value.ownBlock] using e'
  rw [← this]; exact eq
theorem RW.call (h : RW w e g N cap f) (hb : Below w.heap.size w w') : RW w' e g N cap f := h.same (hb.block g h.lt)
theorem RW.more (h : RW w e g N cap f) (o : Obj) : RW (w.alloc o) e g N cap f := h.call ((Below.refl _ _).alloc (Nat.le_refl _) _)
theorem RW.fr {xs : List Nat} (h : RW w e g N cap f) (hf : Fr xs w w') (hx : g ∉ xs) : RW w' e g N cap f := h.same (hf.block g h.lt hx)
theorem RW.drew (h : RW w e g N cap f) : RW w.drew e g N cap f := h
theorem RW.drewN (h : RW w e g N cap f) (k : Nat) : RW (w.drewN k) e g N cap f := h
theorem RW.set (h : RW w e g N cap f) (i : Nat) (v : Value) : RW (w.setCell ⟨g, i, none⟩ v) e g N cap (upd f i v) := by
  have h1 := (World.ownsRow.stored h i v).1
  rw [range_upd] at h1
  exact h1
theorem RW.other {g' : Nat} (h : RW w e g N cap f) (hne : g ≠ g') (i : Nat) (u : Value) : RW (w.setCell ⟨g', i, none⟩ u) e g N cap f := h.same (Below.heap_setCell _ _ _ _ hne)
end
def iv (S : Nat → Int) : Nat → Value := fun j => .int .i64 (S j)
def bv (F : Nat → Bool) : Nat → Value := fun j => .bool (F j)
theorem iv_upd (S : Nat → Int) (i : Nat) (v : Int) : upd (iv S) i (.int .i64 v) = iv (upd S i v) := by
  funext j; unfold upd iv; by_cases h : j = i <;> simp [h]
theorem bv_upd (F : Nat → Bool) (i : Nat) (v : Bool) : upd (bv F) i (.bool v) = bv (upd F i v) := by
  funext j; unfold upd bv; by_cases h : j = i <;> simp [h]
theorem RW.setI {w : World} {g N cap : Nat} {S : Nat → Int} (h : RW w 3 g N cap (iv S)) (i : Nat) (v : Int) : RW (w.setCell ⟨g, i, none⟩ (.int .i64 v)) 3 g N cap (iv (upd S i v)) := iv_upd S i v ▸ h.set i _
theorem RW.setB {w : World} {g N cap : Nat} {F : Nat → Bool} (h : RW w 4 g N cap (bv F)) (i : Nat) (v : Bool) : RW (w.setCell ⟨g, i, none⟩ (.bool v)) 4 g N cap (bv (upd F i v)) := bv_upd F i v ▸ h.set i _
theorem range_vz (N : Nat) (S : Nat → Int) : (List.range N).map (iv S) = vz ((List.range N).map S) := by
  unfold vz iv; rw [List.map_map]; rfl
theorem range_vB (N : Nat) (F : Nat → Bool) : (List.range N).map (bv F) = vB ((List.range N).map F) := by
  unfold vB bv; rw [List.map_map]; rfl
/-- as a slice that comes in -/
theorem RW.nl {w : World} {g N cap : Nat} {S : Nat → Int} (h : RW w 3 g N cap (iv S)) (hN : N ≤ 6) (hi : ∀ j, j < N → In64 (S j)) : NL.ok w ⟨some ⟨g, 0, none⟩, N, cap, (List.range N).map S⟩ := by
  unfold RW at h
  rw [range_vz] at h
  exact NL.row h (by simp) (fun x hx => by obtain ⟨j, hj, rfl⟩ := List.mem_map.1 hx; exact hi j (List.mem_range.1 hj)) (by omega)
theorem RW.bl {w : World} {g N cap : Nat} {F : Nat → Bool} (h : RW w 4 g N cap (bv F)) (hN : N ≤ 6) : BL.ok w ⟨some ⟨g, 0, none⟩, N, cap, (List.range N).map F⟩ := by
  unfold RW at h
  rw [range_vB] at h
  exact BL.row h (by simp) (by omega)
theorem fnI_range {N : Nat} {S : Nat → Int} {j : Nat} (h : j < N) : fnI ((List.range N).map S) j = S j := by
  unfold fnI; rw [List.getD_eq_getElem?_getD]; simp [h]
/-- what is active hangs only on the states of the machines below -/
theorem act_congr {l : List McV} (hl : Low l) {S S' : Nat → Int} {n : Nat} (hS : ∀ j, j < n → S j = S' j) : ∀ f k, k < n → act l S f k = act l S' f k := by
  intro f
  induction f with
  | zero => intro k _; rfl
  | succ f ih =>
    intro k hk
    simp only [act]
    cases hm : l[k]? with
    | none => rfl
    | some m =>
      simp only
      rcases hl k m hm with h | ⟨j, hj, hjk⟩
      · rw [h]; rfl
      · rw [hj, Int.toNat_natCast, hS j (by omega), ih j (by omega)]
theorem actv_congr {l : List McV} (hl : Low l) {S S' : Nat → Int} {n k : Nat} (hS : ∀ j, j < n → S j = S' j) (hk : k < n) : actv l S k = actv l S' k := act_congr hl hS (k + 1) k hk

set_option maxRecDepth 100000 in
theorem m_owned (om os fst : Int) (st : SL) (mv : ML) (k : Nat) (s : Int) (w : World) :
    Calls Try.prog 51 #[.agg #[.int .i64 om, .int .i64 os, .slice st.A st.n st.c, .int .i64 fst, .slice mv.A mv.n mv.c], .int .i64 (k : Int), .int .i64 s] w fun e w' => e = .returned (.bool (owned ⟨om, os, st, fst, mv⟩ k s)) ∧ Below w.heap.size w w' := by
  obtain ⟨sA, sn, sc, sl⟩ := st
  obtain ⟨mA, mn, mc, ml⟩ := mv
  have hO := Lib.hid (Own.one w 83 #[.int .i64 om, .int .i64 os, .slice sA sn sc, .int .i64 fst, .slice mA mn mc])
  have hv : Hid (owned ⟨om, os, ⟨sA, sn, sc, sl⟩, fst, ⟨mA, mn, mc, ml⟩⟩ k s = (om == (k : Int) && os == s)) := rfl
  simp only
  cases h1 : (om == (k : Int)) <;> cases h2 : (os == s)
  all_goals
    rw [h1, h2] at hv
    go_enter Try.func51, Try.ntmps51
    go_wp2_with fail
    (try (go_region; all_goals go_wp2_with fail))
    all_goals go_ret
    all_goals exact ⟨by rw [hv.out]; rfl, by first | exact hO.out.1 | exact hO.out.1.drew⟩

end Go.Proofs.Ytgjmbmlmopomgaa
