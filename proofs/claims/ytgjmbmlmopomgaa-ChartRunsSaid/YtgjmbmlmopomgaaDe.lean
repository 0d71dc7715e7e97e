/- Copies of states; boxes that a reaction makes. -/
import Derived.Test.YtgjmbmlmopomgaaDd
namespace Go.Proofs.Ytgjmbmlmopomgaa
open Go.RowKit Go.Maps Lib
set_option linter.unusedSimpArgs false
set_option linter.unusedVariables false

theorem RW.of_row {w : World} {B n cap g : Nat} {e : TypeId} {xs : List Value} {vs : Nat → Value} (h : w.ownsRow B e 1 (.slice (some ⟨g, 0, none⟩) n cap) n xs) (hx : xs = (List.range n).map vs) (hn : 0 < n) : RW w e g n cap vs := by
  subst hx
  obtain ⟨h1, h2⟩ := h
  refine ⟨h1, ?_⟩
  rcases h2 with ⟨h2, -⟩ | ⟨g', cap', cur, e', h3, h4, h5⟩
  · cases h2
  · cases e'
    exact .inr ⟨g, cap, cur, rfl, Nat.le_refl _, h4, h5⟩
theorem vz_range {l : List Int} {n : Nat} (h : l.length = n) : vz l = (List.range n).map (iv (fnI l)) := by
  apply List.ext_getElem?
  intro j
  by_cases hj : j < n
  · have e : l[j]? = some l[j] := List.getElem?_eq_getElem (by omega)
    simp [vz, iv, fnI, hj, e]
  · simp [vz, h, hj]
theorem vB_range {l : List Bool} {n : Nat} (h : l.length = n) : vB l = (List.range n).map (bv (fnB l)) := by
  apply List.ext_getElem?
  intro j
  by_cases hj : j < n
  · have e : l[j]? = some l[j] := List.getElem?_eq_getElem (by omega)
    simp [vB, bv, fnB, hj, e]
  · simp [vB, h, hj]
theorem c_cloneI (s : NL) (w : World) (hs : s.ok w) (h0 : 0 < s.n) (h6 : s.n ≤ 6) : Calls Try.prog 40 #[.slice s.A s.n s.c] w fun e w' => ∃ gS cap, e = .returned (.slice (some ⟨gS, 0, none⟩) s.n cap) ∧ w.heap.size ≤ gS ∧ RW w' 3 gS s.n cap (iv (fnI s.l)) ∧ Below w.heap.size w w' := by
  obtain ⟨A, n, c, l⟩ := s
  obtain ⟨h1, h2, h3, h4, h5⟩ := hs
  simp only at h0 h6 h1 h2 h3 h4 h5 ⊢
  obtain ⟨g, o, rfl, hg, hc⟩ := h5.resolve_left (by omega)
  refine (Try.slices_Clone_int g o n c l w (by omega) (by omega) (fun j hj => by
      have e : l[j]? = some l[j] := List.getElem?_eq_getElem hj
      rw [List.getD_eq_getElem?_getD, e]
      exact hc j _ e)).mono ?_
  rintro e w' ⟨v', rfl, hr, -, hb⟩
  rw [List.take_of_length_le (by omega)] at hr
  obtain ⟨gS, cap, rfl, hlo, hlt⟩ := hr.form h0
  exact ⟨gS, cap, rfl, hlo, RW.of_row hr (vz_range h1) h0, hb⟩
theorem c_cloneB (s : BL) (w : World) (hs : s.ok w) (h0 : 0 < s.n) (h6 : s.n ≤ 6) : Calls Try.prog 41 #[.slice s.A s.n s.c] w fun e w' => ∃ gS cap, e = .returned (.slice (some ⟨gS, 0, none⟩) s.n cap) ∧ w.heap.size ≤ gS ∧ RW w' 4 gS s.n cap (bv (fnB s.l)) ∧ Below w.heap.size w w' := by
  obtain ⟨A, n, c, l⟩ := s
  obtain ⟨h1, h2, h3, h5⟩ := hs
  simp only at h0 h6 h1 h2 h3 h5 ⊢
  obtain ⟨g, o, rfl, hg, hc⟩ := h5.resolve_left (by omega)
  obtain ⟨j0, hj0, yz0, yz1, yz2⟩ := infoB_parts
  refine (Try.slices_Clone_f41 j0 (.bool false) 1 1 hj0 yz0 yz1 yz2 rfl (by decide) Try.sizeOf4 g o n c (vB l) w (by rw [vB_len]; omega) (by unfold maxLen; omega) (by omega) (fun j u hj => by
      unfold vB at hj
      rw [List.getElem?_map] at hj
      cases e : l[j]? with
      | none => rw [e] at hj; cases hj
      | some b => rw [e] at hj; cases hj; exact hc j _ e) (fun u hu => by
      unfold vB at hu
      obtain ⟨b, hb, rfl⟩ := List.mem_map.1 hu
      rfl)).mono ?_
  rintro e w' ⟨v', rfl, hr, -, hb⟩
  obtain ⟨gS, cap, rfl, hlo, hlt⟩ := hr.form h0
  exact ⟨gS, cap, rfl, hlo, RW.of_row hr (vB_range h1) h0, hb⟩

theorem Blk.newE {w : World} {g : Nat} {t : TypeId} {cs : Array Value} (h : g = w.heap.size) : Blk (w.alloc (.cells cs t)) g t cs := by rw [h]; exact Blk.new _ _ _
theorem Blk.set3 {w : World} {g : Nat} {t : TypeId} {a b c : Value} (h : Blk w g t #[a, b, c]) (u v x : Value) : Blk (((w.setCell ⟨g, 0, none⟩ u).setCell ⟨g, 1, none⟩ v).setCell ⟨g, 2, none⟩ x) g t #[u, v, x] := ((h.set 0 u).set 1 v).set 2 x
theorem blkT {w : World} {g : Nat} {t : TypeId} {a b c : Value} (h : Blk w g t #[a, b, c]) :
    w.cell? ⟨g, 0, none⟩ = some a ∧ w.cell? ⟨g, 1, none⟩ = some b ∧ w.cell? ⟨g, 2, none⟩ = some c ∧ w.frozen? ⟨g, 0, none⟩ = false ∧ w.frozen? ⟨g, 1, none⟩ = false ∧ w.frozen? ⟨g, 2, none⟩ = false :=
  ⟨h.cell 0, h.cell 1, h.cell 2, h.frozen 0, h.frozen 1, h.frozen 2⟩
theorem Own.setT {w w1 : World} {bs : List (TypeId × Array Value)} {g : Nat} (h : Own w bs w1) (hg : w.heap.size + bs.length ≤ g) (u v x : Value) : Own w bs (((w1.setCell ⟨g, 0, none⟩ u).setCell ⟨g, 1, none⟩ v).setCell ⟨g, 2, none⟩ x) :=
  ⟨((h.1.setCell (by show _ ≤ g; omega) _).setCell (by show _ ≤ g; omega) _).setCell (by show _ ≤ g; omega) _, by simpa [World.setCell] using h.2.1, fun i t cs hi => by
    have hl := (List.getElem?_eq_some_iff.1 hi).1
    exact (((h.2.2 i t cs hi).far (by show w.heap.size + i ≠ g; omega) _).far (by show w.heap.size + i ≠ g; omega) _).far (by show w.heap.size + i ≠ g; omega) _⟩
theorem RW.setT {w : World} {e : TypeId} {g N cap : Nat} {f : Nat → Value} (h : RW w e g N cap f) {p : Nat} (hne : g ≠ p) (u v x : Value) : RW (((w.setCell ⟨p, 0, none⟩ u).setCell ⟨p, 1, none⟩ v).setCell ⟨p, 2, none⟩ x) e g N cap f :=
  ((h.other hne 0 u).other hne 1 v).other hne 2 x

/-- copies of the states, and the box that holds them -/
def CutR (w : World) (bs : List (TypeId × Array Value)) (n : Nat) (S : Nat → Int) (F : Nat → Bool) (v9 : Value) (wc : World) : Prop :=
  ∃ gO gS gF capS capF : Nat, v9 = .pointer (some ⟨gO, 0, none⟩) ∧ w.heap.size + bs.length ≤ gO ∧ w.heap.size + bs.length ≤ gS ∧ w.heap.size + bs.length ≤ gF ∧ gS ≠ gF ∧ gO ≠ gS ∧ gO ≠ gF ∧
    Own w bs wc ∧ Blk wc gO 29 #[.slice (some ⟨gS, 0, none⟩) n capS, .slice (some ⟨gF, 0, none⟩) n capF, .slice none 0 0] ∧ RW wc 3 gS n capS (iv S) ∧ RW wc 4 gF n capF (bv F)

end Go.Proofs.Ytgjmbmlmopomgaa
