/- Which machines are active: the reference's recursion. -/
import Derived.Test.YtgjmbmlmopomgaaCs
namespace Go.Proofs.Ytgjmbmlmopomgaa
open Go.RowKit Go.Maps
set_option linter.unusedSimpArgs false
set_option linter.unusedVariables false

set_option maxRecDepth 100000 in
set_option maxHeartbeats 4000000 in
theorem r_isActive (c : CV) (s : NL) (hsn : s.n = c.n) (h6 : c.n ≤ 6) (hlow : Low c.l) : ∀ k, k < c.n → ∀ w, c.ok w → s.ok w →
    Calls Try.prog 34 #[.agg #[.slice c.A c.n c.c], .slice s.A s.n s.c, .int .i64 (k : Int)] w fun e w' => e = .returned (.bool (actv c.l (fnI s.l) k)) ∧ Below w.heap.size w w' := by
  intro k
  induction k using Nat.strongRecOn with
  | _ k ih =>
  intro hk w hc hs
  have hrec := fun j (hj : j < k) (w' : World) (hb : Below w.heap.size w w') => ih j hj (by omega) w' (hc.below hb (Nat.le_refl _)) (hs.below hb (Nat.le_refl _))
  clear ih
  obtain ⟨A, n, cc, l⟩ := c
  obtain ⟨sA, sn, sc, sl⟩ := s
  simp only at hsn h6 hlow hk hrec ⊢
  subst hsn
  have hl := hc.1
  simp only at hl
  obtain ⟨g, o, m, hA, hg, hm, hmo, c0, c1, c2, c3, c4⟩ := hc.cell hk
  obtain ⟨om, os, ⟨tA, tn, tc, tl⟩, fst, ⟨mA, mn, mc, ml⟩⟩ := m
  simp only at hA c0 c1 c2 c3 c4 hm
  subst hA
  have hO2 := Own.two w 24 47 #[.slice (some ⟨g, o, none⟩) sn cc] #[.int .i64 om, .int .i64 os]
  have hn1 : sn ≤ 17592186044416 := by omega
  clear hmo
  rcases hlow k _ hm with q1 | ⟨j, q1, q2⟩
  · simp only at q1
    have hv := Lib.hid (actv_root (fnI sl) hm q1)
    replace hm := Lib.hid hm
    replace hO2 := Lib.hid hO2.drew
    replace hrec := Lib.hid hrec
    clear hc hs
    go_enter Try.func34, Try.ntmps34
    go_wp2_with fail
    go_region
    all_goals go_wp2_with fail
    all_goals go_ret
    all_goals exact ⟨by rw [hv.out]; rfl, hO2.out.1⟩
  · simp only at q1
    subst q1
    have hv := Lib.hid (actv_own hlow (fnI sl) hm rfl q2)
    obtain ⟨g2, o2, x, hA2, hg2, hx, hxx, e2⟩ := hs.cell (j := j) (by simp only; omega)
    simp only at hA2 hx
    subst hA2
    have hfx : fnI sl j = x := by unfold fnI; rw [List.getD_eq_getElem?_getD, hx]; rfl
    have hjs : j < sn := by omega
    have hj3 : decide ((j : Int) < 0) = false := by simp
    rw [hfx] at hv
    clear hx hfx
    cases hb2 : (x == os) with
    | false =>
      replace hm := Lib.hid hm
      replace hO2 := Lib.hid hO2.drew
      replace hrec := Lib.hid hrec
      clear hc hs
      go_enter Try.func34, Try.ntmps34
      go_wp2_with fail
      go_region
      all_goals go_wp2_with fail
      all_goals go_ret
      all_goals exact ⟨by rw [hv.out, hb2]; rfl, hO2.out.1⟩
    | true =>
      replace hrec := hrec j q2
      replace hm := Lib.hid hm
      have a0 := hO2.drew.b0.cell 0
      have b0 := hO2.drew.b1.cell 0
      have b1 := hO2.drew.b1.cell 1
      have b2 := (hO2.drew.1.cell (p := ⟨g2, o2 + j, none⟩) hg2).trans e2
      simp only [List.getElem?_toArray, List.getElem?_cons_zero, List.getElem?_cons_succ] at a0 b0 b1
      have hS := And.intro a0 (And.intro b0 (And.intro b1 b2))
      have hrec1 := hrec _ hO2.drew.1
      have hO2d := Lib.hid hO2.drew
      replace hO2 := Lib.hid hO2
      clear a0 b0 b1 b2 hrec hc hs
      go_enter Try.func34, Try.ntmps34
      go_wp2_with fail
      go_region_held3 (fun w' : World => w'.cell? ⟨w.heap.size, 0, none⟩ = some (.slice (some ⟨g, o, none⟩) sn cc) ∧ w'.cell? ⟨w.heap.size + 1, 0, none⟩ = some (.int .i64 (j : Int)) ∧ w'.cell? ⟨w.heap.size + 1, 1, none⟩ = some (.int .i64 os) ∧ w'.cell? ⟨g2, o2 + j, none⟩ = some (.int .i64 x))
        (first | (with_reducible exact hS))
        (first
          | (go_at_call 34; (with_reducible refine hrec1.mono ?_); rintro e w4 ⟨rfl, hb4⟩; have hO4 := Lib.hid (hO2d.out.call hb4); have b2 := (hO4.out.1.cell (p := ⟨g2, o2 + j, none⟩) hg2).trans e2; clear hS; have hS : w4.cell? ⟨w.heap.size, 0, none⟩ = some (.slice (some ⟨g, o, none⟩) sn cc) ∧ w4.cell? ⟨w.heap.size + 1, 0, none⟩ = some (.int .i64 (j : Int)) ∧ w4.cell? ⟨w.heap.size + 1, 1, none⟩ = some (.int .i64 os) ∧ w4.cell? ⟨g2, o2 + j, none⟩ = some (.int .i64 x) := ⟨hO4.out.b0.cell 0, hO4.out.b1.cell 0, hO4.out.b1.cell 1, b2⟩; clear hb4))
      all_goals go_wp2_with fail
      all_goals go_ret
      all_goals exact ⟨by rw [hv.out, hb2]; rfl, hO4.out.1⟩

end Go.Proofs.Ytgjmbmlmopomgaa
