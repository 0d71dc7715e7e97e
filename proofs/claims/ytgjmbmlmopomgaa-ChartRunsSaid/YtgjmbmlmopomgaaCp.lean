/- isConfig of the reference. -/
import Derived.Test.YtgjmbmlmopomgaaCr
namespace Go.Proofs.Ytgjmbmlmopomgaa
open Go.RowKit
set_option linter.unusedSimpArgs false
set_option linter.unusedVariables false

theorem h_cases (c : CV) (g : GV) :
    (((g.st.n : Int) == (c.n : Int)) = false ∧ g.fine c = false) ∨
    (((g.st.n : Int) == (c.n : Int)) = true ∧ ((g.fr.n : Int) == (c.n : Int)) = false ∧ g.fine c = false) ∨
    (((g.st.n : Int) == (c.n : Int)) = true ∧ ((g.fr.n : Int) == (c.n : Int)) = true ∧ g.out.names = false ∧ g.fine c = false) ∨
    (((g.st.n : Int) == (c.n : Int)) = true ∧ ((g.fr.n : Int) == (c.n : Int)) = true ∧ g.out.names = true ∧ g.fine c = (statesOk c.l g.st.l && rises g.out.l)) := by
  have e1 : ((g.st.n : Int) == (c.n : Int)) = (g.st.n == c.n) := by
    rw [Bool.eq_iff_iff, beq_iff_eq, beq_iff_eq]; omega
  have e2 : ((g.fr.n : Int) == (c.n : Int)) = (g.fr.n == c.n) := by
    rw [Bool.eq_iff_iff, beq_iff_eq, beq_iff_eq]; omega
  rw [e1, e2]
  unfold GV.fine
  cases g.st.n == c.n <;> cases g.fr.n == c.n <;> cases rises g.out.l <;> cases g.out.names <;> simp

set_option maxRecDepth 100000 in
set_option maxHeartbeats 4000000 in
theorem r_config (c : CV) (g : GV) (w : World) (hc : c.ok w) (hg : g.ok w) : Calls Try.prog 33 #[.agg #[.slice c.A c.n c.c], .agg #[.slice g.st.A g.st.n g.st.c, .slice g.fr.A g.fr.n g.fr.c, .slice g.out.A g.out.n g.out.c]] w fun e w' => e = .returned (.bool (g.fine c)) ∧ Below w.heap.size w w' := by
  obtain ⟨A, n, cc, l⟩ := c
  obtain ⟨⟨gA, gn, gc, gl⟩, ⟨fA, fn, fc, fl⟩, ⟨oA, on, oc, ol⟩⟩ := g
  have hl := hc.1
  have hgl := hg.1.1
  have hol := hg.2.2.1
  have hn : n ≤ 17592186044416 := hc.2.2.1
  have hgn : gn ≤ 17592186044416 := hg.1.2.2.1
  have hon : on ≤ 17592186044416 := Nat.le_trans hg.2.2.2.2.1 (by decide)
  have hO0 := Own.two w 24 29 #[.slice A n cc] #[.slice gA gn gc, .slice fA fn fc, .slice oA on oc]
  have a0 := hO0.b0.cell 0
  have b0 := hO0.b1.cell 0
  have b1 := hO0.b1.cell 1
  have b2 := hO0.b1.cell 2
  have hval : Hid (∀ b, GV.fine ⟨A, n, cc, l⟩ ⟨⟨gA, gn, gc, gl⟩, ⟨fA, fn, fc, fl⟩, ⟨oA, on, oc, ol⟩⟩ = b → Value.bool (GV.fine ⟨A, n, cc, l⟩ ⟨⟨gA, gn, gc, gl⟩, ⟨fA, fn, fc, fl⟩, ⟨oA, on, oc, ol⟩⟩) = .bool b) := fun b h => by rw [h]
  have hnam : Hid (∀ w', Below w.heap.size w w' → Calls Try.prog 43 #[.slice oA on oc] w' fun e w'' => e = .returned (.bool (SL.names ⟨oA, on, oc, ol⟩)) ∧ Below w'.heap.size w' w'') := fun w' hb => r_names ⟨oA, on, oc, ol⟩ w' (hg.2.2.below hb (Nat.le_refl _))
  replace hc := Lib.hid hc
  replace hg := Lib.hid hg
  replace hO0 := Lib.hid hO0
  simp only [List.getElem?_toArray, List.getElem?_cons_zero, List.getElem?_cons_succ] at a0 b0 b1 b2
  simp only at hl hgl hol ⊢
  have hgc := h_cases ⟨A, n, cc, l⟩ ⟨⟨gA, gn, gc, gl⟩, ⟨fA, fn, fc, fl⟩, ⟨oA, on, oc, ol⟩⟩
  simp only at hgc
  go_enter Try.func33, Try.ntmps33
  rcases hgc with ⟨q1, hv⟩ | ⟨q1, q2, hv⟩ | ⟨q1, q2, q4, hv⟩ | ⟨q1, q2, q4, hv⟩
  all_goals
    have hv' := Lib.hid hv
    clear hv
    (try have p1 : ((gn : Int) != (n : Int)) = true := by simp only [bne, q1]; rfl)
    (try have p1 : ((gn : Int) != (n : Int)) = false := by simp only [bne, q1]; rfl)
    (try have p2 : ((fn : Int) != (n : Int)) = true := by simp only [bne, q2]; rfl)
    (try have p2 : ((fn : Int) != (n : Int)) = false := by simp only [bne, q2]; rfl)
    (try simp only [q4] at hnam)
    go_wp2_with (go_at_call 43; (with_reducible refine (hnam.out _ (Own.lo hO0.out)).mono ?_); rintro e w5 ⟨rfl, hb5⟩; have hO5 := Lib.hid (hO0.out.call hb5); have a0 := hO5.out.b0.cell 0; have b0 := hO5.out.b1.cell 0; have b1 := hO5.out.b1.cell 1; have b2 := hO5.out.b1.cell 2; simp only [List.getElem?_toArray, List.getElem?_cons_zero, List.getElem?_cons_succ] at a0 b0 b1 b2)
  · go_ret
    exact ⟨by rw [hval.out _ hv'.out]; rfl, hO0.out.1⟩
  · go_ret
    exact ⟨by rw [hval.out _ hv'.out]; rfl, hO0.out.1⟩
  · go_ret
    exact ⟨by rw [hval.out _ hv'.out]; rfl, hO5.out.1⟩
  · clear hnam hO0
    have q5 : gn = n := by have h := eq_of_beq q1; omega
    clear q1 q2 q4 p1 p2
    subst q5
    go_loopw [33] (fun v33 wr => RO w [(24, #[.slice A gn cc]), (29, #[.slice gA gn gc, .slice fA fn fc, .slice oA on oc])] gn (fun k => ∀ m x, l[k]? = some m → gl[k]? = some x → okIdx m.st.n x = true) v33 wr) (fun i _ => gn - (intOf i).toNat)
    case atStart => exact ⟨hO5.out, 0, by omega, rfl, fun j hj => absurd hj (Nat.not_lt_zero _)⟩
    case round =>
      clear hO5 a0 b0 b1 b2
      obtain ⟨hO, k, hk, rfl, hP⟩ := hrel
      replace hO := Lib.hid hO
      replace hP := Lib.hid hP
      have b0 := hO.out.b1.cell 0
      have b2 := hO.out.b1.cell 2
      simp only [List.getElem?_toArray, List.getElem?_cons_zero, List.getElem?_cons_succ] at b0 b2
      by_cases hlt : k < gn
      · obtain ⟨b, o, m, hA, hgb, hm, hmo, c0, c1, c2, c3, c4⟩ := (hc.out.below hO.out.1 (Nat.le_refl _)).cell hlt
        obtain ⟨g2, o2, x, hA2, hg2, hx, hxx, d0⟩ := (hg.out.1.below hO.out.1 (Nat.le_refl _)).cell hlt
        obtain ⟨om, os, ⟨sA, sn, sc, sl⟩, fst, ⟨mA, mn, mc, ml⟩⟩ := m
        simp only at hA c0 c1 c2 c3 c4 hm hA2 hx
        subst hA
        subst hA2
        replace hm := Lib.hid hm
        replace hx := Lib.hid hx
        clear hmo hxx
        have hbo : Hid (Own wr [(50, #[.int .i64 om, .int .i64 os, .slice sA sn sc, .int .i64 fst, .slice mA mn mc])] (wr.alloc (.cells #[.int .i64 om, .int .i64 os, .slice sA sn sc, .int .i64 fst, .slice mA mn mc] 50))) := Own.one _ _ _
        have hOm := Lib.hid ((hO.out.call hbo.out.1).drew)
        have e0 := (hO.out.call hbo.out.1).b1.cell 0
        simp only [List.getElem?_toArray, List.getElem?_cons_zero, List.getElem?_cons_succ] at e0
        rcases okIdx_cases sn x with ⟨q1, hz⟩ | ⟨q1, q2, hz⟩ | ⟨q1, q2, hz⟩
        · have hv := Lib.hid (st_no hm.out hx.out hz)
          clear hz
          go_wp2_with fail
          go_region
          all_goals go_wp2_with fail
          all_goals go_ret
          all_goals exact ⟨by rw [hval.out _ (by rw [hv'.out, hv.out, Bool.false_and])]; rfl, hOm.out.1⟩
        · have hv := Lib.hid (st_no hm.out hx.out hz)
          clear hz
          go_wp2_with fail
          go_region
          all_goals go_wp2_with fail
          all_goals go_ret
          all_goals exact ⟨by rw [hval.out _ (by rw [hv'.out, hv.out, Bool.false_and])]; rfl, hOm.out.1⟩
        · replace hz := Lib.hid hz
          go_wp2_with fail
          go_region
          all_goals go_wp2_with fail
          all_goals go_roundw
          all_goals (first
            | (case rel => exact RO.next hOm.out hlt (by go_num) hP.out (fun m' x' hm' hx' => by rw [hm.out] at hm'; rw [hx.out] at hx'; cases hm'; cases hx'; exact hz.out))
            | (case measure => simp [intOf]; omega))
      · have hv : Hid (statesOk l gl = true) := st_yes hgl (fun k hk => hP.out k (by omega)) hl
        go_wp2_with fail
        clear b0 b2
        obtain ⟨w7, hw7⟩ : ∃ w7, w7 = wr := ⟨_, rfl⟩
        subst hw7
        go_loopw [7] (fun v7 wr => Own w [(24, #[.slice A gn cc]), (29, #[.slice gA gn gc, .slice fA fn fc, .slice oA on oc])] wr ∧ ∃ i : Nat, 1 ≤ i ∧ v7 = .int .i64 (i : Int) ∧ ∀ j, 1 ≤ j → j < i → j < on → lessAt ol j = true) (fun i _ => on - (intOf i).toNat)
        case atStart => exact ⟨hO.out, 1, by omega, rfl, fun j h1 h2 _ => by omega⟩
        case round =>
          clear hO hP
          obtain ⟨hO, i, hi, rfl, hP⟩ := hrel
          replace hO := Lib.hid hO
          replace hP := Lib.hid hP
          have b2 := hO.out.b1.cell 2
          simp only [List.getElem?_toArray, List.getElem?_cons_zero, List.getElem?_cons_succ] at b2
          have hin : (i : Int) - 1 = ((i - 1 : Nat) : Int) := by omega
          have h1i : 1 ≤ (i : Int) := by omega
          by_cases hlt2 : i < on
          · have hsl := hg.out.2.2.below hO.out.1 (Nat.le_refl _)
            obtain ⟨g, o, x, hA, hgx, hx, hxs, c0⟩ := hsl.cell hlt2
            simp only at hA hx
            subst hA
            obtain ⟨g2, o2, y, hA, -, hy, hys, c1⟩ := hsl.cell (j := i - 1) (by simp only; omega)
            simp only at hA hy
            cases hA
            have hL := Lib.hid (lessAt_eq hx hy)
            clear hx hy hsl
            have hOd := Lib.hid hO.out.drew
            cases hle : Op.bytesLess y.toList x.toList with
            | true =>
              go_wp2_with fail
              go_region
              all_goals go_wp2_with fail
              all_goals go_roundw
              all_goals (first
                | (case rel => exact ⟨hOd.out, i + 1, by omega, by go_num, fun j h1 h2 h3 => by
                    by_cases hji : j = i
                    · rw [hji, hL.out]; exact hle
                    · exact hP.out j h1 (by omega) h3⟩)
                | (case measure => simp [intOf]; omega))
            | false =>
              have hr : Hid (rises ol = false) := rises_not hol hi hlt2 (by rw [hL.out]; exact hle)
              go_wp2_with fail
              go_region
              all_goals go_wp2_with fail
              all_goals go_ret
              all_goals exact ⟨by rw [hval.out _ (by rw [hv'.out, hr.out, Bool.and_false])]; rfl, hOd.out.1⟩
          · have hr : Hid (rises ol = true) := rises_yes hol fun j h1 h2 => hP.out j h1 (by omega) h2
            go_wp2_with fail
            go_ret
            exact ⟨by rw [hval.out _ (by rw [hv'.out, hv.out, hr.out])]; rfl, hO.out.1⟩

end Go.Proofs.Ytgjmbmlmopomgaa
