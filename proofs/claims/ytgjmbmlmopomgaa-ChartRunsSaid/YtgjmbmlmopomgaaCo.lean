/- Which machines are active: the program's list. -/
import Derived.Test.YtgjmbmlmopomgaaCr
import Derived.Test.YtgjmbmlmopomgaaBa
namespace Go.Proofs.Ytgjmbmlmopomgaa
open Go.RowKit
set_option linter.unusedSimpArgs false
set_option linter.unusedVariables false

/-- machine k is active in the states S -/
def act (l : List McV) (S : Nat → Int) : Nat → Nat → Bool
  | 0, _ => false
  | f + 1, k => match l[k]? with
    | some m => decide (m.om < 0) || (S m.om.toNat == m.os && act l S f m.om.toNat)
    | none => false
def actv (l : List McV) (S : Nat → Int) (k : Nat) : Bool := act l S (k + 1) k
/-- owners are lower -/
def Low (l : List McV) : Prop := ∀ k m, l[k]? = some m → decide (m.om < 0) = true ∨ ∃ j : Nat, m.om = (j : Int) ∧ j < k
theorem act_more {l : List McV} (hl : Low l) (S : Nat → Int) : ∀ f k, k < f → act l S f k = actv l S k := by
  intro f
  induction f using Nat.strongRecOn with
  | _ f ih =>
    intro k hk
    match f, hk with
    | f + 1, hk =>
      unfold actv
      by_cases e : f = k
      · rw [e]
      · simp only [act]
        cases hm : l[k]? with
        | none => rfl
        | some m =>
          simp only
          rcases hl k m hm with h | ⟨j, hj, hjk⟩
          · rw [h]; rfl
          · rw [hj, Int.toNat_natCast, ih f (by omega) j (by omega)]
            rcases Nat.lt_or_ge k (f + 1) with h2 | h2
            · rw [ih k (by omega) j hjk]
            · omega
theorem actv_own {l : List McV} (hl : Low l) (S : Nat → Int) {k : Nat} {m : McV} (hm : l[k]? = some m) {j : Nat} (hj : m.om = j) (hjk : j < k) : actv l S k = (S j == m.os && actv l S j) := by
  show act l S (k + 1) k = _
  simp only [act, hm]
  rw [hj, Int.toNat_natCast, act_more hl S k j hjk]
  have : decide (((j : Nat) : Int) < 0) = false := by simp
  rw [this, Bool.false_or]
theorem actv_root {l : List McV} (S : Nat → Int) {k : Nat} {m : McV} (hm : l[k]? = some m) (h : decide (m.om < 0) = true) : actv l S k = true := by
  show act l S (k + 1) k = _
  simp only [act, hm, h, Bool.true_or]

/-- the states as a function -/
def fnI (l : List Int) (j : Nat) : Int := l.getD j 0
def fnB (l : List Bool) (j : Nat) : Bool := l.getD j false

/-- the list of truths as far as i -/
def RT (w : World) (l : List McV) (S : Nat → Int) (n : Nat) (v : Value) (wr : World) : Prop :=
  Below w.heap.size w wr ∧ ∃ i : Nat, i ≤ n ∧ v = .int .i64 i ∧ RB wr (w.heap.size + 1) n (fun j => decide (j < i) && actv l S j)
theorem RT.next {w wr : World} {l : List McV} {S : Nat → Int} {n i : Nat} {b : Bool} {v : Value} (hb : Below w.heap.size w wr) (hi : i < n) (hv : v = .int .i64 ((i + 1 : Nat) : Int)) (hR : RB wr (w.heap.size + 1) n (upd (fun j => decide (j < i) && actv l S j) i b)) (hbv : actv l S i = b) : RT w l S n v wr :=
  ⟨hb, i + 1, hi, hv, RB.congr hR fun j hj => by
    unfold upd
    by_cases e : j = i
    · rw [if_pos e, e, hbv]; simp
    · rw [if_neg e]
      have : decide (j < i) = decide (j < i + 1) := by rw [decide_eq_decide]; omega
      simp only [this]⟩

set_option maxRecDepth 100000 in
set_option maxHeartbeats 4000000 in
theorem m_active (c : CV) (s : NL) (w : World) (hc : c.ok w) (hs : s.ok w) (hsn : s.n = c.n) (h6 : c.n ≤ 6) (hlow : Low c.l) :
    Calls Try.prog 32 #[.agg #[.slice c.A c.n c.c], .slice s.A s.n s.c] w fun e w' => ∃ g, e = .returned (.slice (some ⟨g, 0, none⟩) c.n c.n) ∧ w.heap.size ≤ g ∧ RB w' g c.n (actv c.l (fnI s.l)) ∧ Below w.heap.size w w' := by
  obtain ⟨A, n, cc, l⟩ := c
  obtain ⟨sA, sn, sc, sl⟩ := s
  simp only at hsn h6 hlow
  subst hsn
  have hl := hc.1
  replace hc := Lib.hid hc
  replace hs := Lib.hid hs
  replace hlow := Lib.hid hlow
  simp only at hl ⊢
  obtain ⟨i0, hi0, hz0, hz1, hz2⟩ := infoB_parts
  obtain ⟨w1, hw1⟩ : ∃ w1, w1 = w.alloc (.cells #[.slice A sn cc] 24) := ⟨_, rfl⟩
  have hO1 : Hid (Own w [(24, #[.slice A sn cc])] w1 ∧ w1.heap.size = w.heap.size + 1) := by rw [hw1]; exact ⟨Own.one _ _ _, by simp⟩
  have a0 := hO1.out.1.b0.cell 0
  simp only [List.getElem?_toArray, List.getElem?_cons_zero] at a0
  go_enter Try.func32, Try.ntmps32
  go_upto_region 1 with fail
  rw [← hw1]
  clear hw1
  go_upto_region 2 with (at_make; refine wpList_make_full _ rfl _ _ 26 rfl w1.heap.size 4 i0 (.bool false) 1 Try.underlying26 hi0 hz0 hz1 .i64 .i64 _ _ sn rfl rfl (by rfl) (by rfl) (by rw [hz2]; omega) (by simp [maxLen]; omega) (Nat.le_refl _) ?_; intro w2 hown2 hg2)
  have hb2 : Below w1.heap.size w1 w2 := (Below.refl _ _).grown hg2 (Nat.le_refl _) (by intro k hk; cases hk)
  have hO2 := Lib.hid (hO1.out.1.call hb2)
  have hR2 := raw_rb hown2
  rw [hO1.out.2] at hR2 ⊢
  have hlw : Hid (w.heap.size + 1 ≤ w2.heap.size) := by have h : w.heap.size + 1 ≤ w2.heap.size := hO2.out.2.1; exact h
  have a0 := hO2.out.b0.cell 0
  simp only [List.getElem?_toArray, List.getElem?_cons_zero] at a0
  clear hown2 hg2 hb2 hO1
  go_wp2_with fail
  clear a0
  go_loopw [15] (fun v15 wr => RT w l (fnI sl) sn v15 wr) (fun i _ => sn - (intOf i).toNat)
  case atStart => exact ⟨hO2.out.1, 0, by omega, rfl, RB.congr hR2 fun j _ => by simp⟩
  case round =>
    clear hO2 hR2
    obtain ⟨hbr, i, hi, rfl, hR⟩ := hrel
    by_cases hlt : i < sn
    · obtain ⟨g, o, m, hA, hg, hm, hmo, c0, c1, c2, c3, c4⟩ := (hc.out.below hbr (Nat.le_refl _)).cell hlt
      obtain ⟨om, os, ⟨tA, tn, tc, tl⟩, fst, ⟨mA, mn, mc, ml⟩⟩ := m
      simp only at hA c0 c1 c2 c3 c4 hm
      subst hA
      have hbo : Hid (Own wr [(50, #[.int .i64 om, .int .i64 os, .slice tA tn tc, .int .i64 fst, .slice mA mn mc])] (wr.alloc (.cells #[.int .i64 om, .int .i64 os, .slice tA tn tc, .int .i64 fst, .slice mA mn mc] 50))) := Own.one _ _ _
      have hbm : Hid (Below w.heap.size w (wr.alloc (.cells #[.int .i64 om, .int .i64 os, .slice tA tn tc, .int .i64 fst, .slice mA mn mc] 50))) := hbr.alloc hbr.size _
      have hRm := hR.call hbo.out.1
      have hfz := hRm.frozen i
      have hlt1 := hR.lt
      have hset := fun b => Lib.hid (((hR.set i b).call ((Below.refl _ _).alloc (Nat.le_refl _) (.cells #[.int .i64 om, .int .i64 os, .slice tA tn tc, .int .i64 fst, .slice mA mn mc] 50))).drew)
      have hbs := fun (b : Bool) => Lib.hid ((((hbr.setCell (p := ⟨w.heap.size + 1, i, none⟩) (Nat.le_add_right _ _) (.bool b)).alloc (by simp [World.setCell]; exact hbr.size) (.cells #[.int .i64 om, .int .i64 os, .slice tA tn tc, .int .i64 fst, .slice mA mn mc] 50)).drew))
      have hic := hR.cell hlt
      have hif := hR.frozen i
      replace hRm := Lib.hid hRm
      replace hR := Lib.hid hR
      have hn1 : sn ≤ 17592186044416 := by omega
      replace hm := Lib.hid hm
      clear hmo
      rcases hlow.out i _ hm.out with q1 | ⟨j, q1, q2⟩
      · simp only at q1
        have hv := Lib.hid (actv_root (fnI sl) hm.out q1)
        go_wp2_with fail
        go_region
        all_goals go_wp2_with fail
        all_goals go_roundw
        all_goals (first
          | (case rel => exact RT.next (hbs _).out hlt (by go_num) (hset _).out hv.out)
          | (case measure => simp [intOf]; omega))
      · simp only at q1
        subst q1
        have hjc := hR.out.cell (i := j) (by omega)
        have hv := Lib.hid (actv_own hlow.out (fnI sl) hm.out rfl q2)
        obtain ⟨g2, o2, x, hA2, hg2, hx, hxx, e2⟩ := (hs.out.below hbr (Nat.le_refl _)).cell (j := j) (by simp only; omega)
        simp only at hA2 hx
        subst hA2
        have hfx : fnI sl j = x := by unfold fnI; rw [List.getD_eq_getElem?_getD, hx]; rfl
        have hjs : j < sn := by omega
        have hj3 : decide ((j : Int) < 0) = false := by simp
        rw [hfx] at hv
        clear hx hfx
        simp only [decide_eq_true q2, Bool.true_and] at hjc
        cases hb1 : actv l (fnI sl) j <;> cases hb2 : (x == os)
        all_goals
          simp only [hb1] at hjc
          have hjd : (wr.alloc (.cells #[.int .i64 (j : Int), .int .i64 os, .slice tA tn tc, .int .i64 fst, .slice mA mn mc] 50)).cell? ⟨w.heap.size + 1, j, none⟩ = some (.bool (actv l (fnI sl) j)) := (hbo.out.1.cell (by show _ < _; exact hlt1)).trans (by rw [hb1]; exact hjc)
          rw [hb1] at hjd
          go_wp2_with fail
          go_region
          all_goals go_wp2_with fail
          all_goals go_roundw
          all_goals (first
            | (case rel => exact RT.next (hbs _).out hlt (by go_num) (hset _).out (by rw [hv.out, hb1, hb2]; rfl))
            | (case measure => simp [intOf]; omega))
    · have hR' : RB wr (w.heap.size + 1) sn (actv l (fnI sl)) := RB.congr hR fun j hj => by
        have : j < i := by omega
        simp [this]
      clear hR
      replace hR' := Lib.hid hR'
      go_wp2_with fail
      go_ret
      exact ⟨_, rfl, by omega, hR'.out, hbr⟩

end Go.Proofs.Ytgjmbmlmopomgaa
