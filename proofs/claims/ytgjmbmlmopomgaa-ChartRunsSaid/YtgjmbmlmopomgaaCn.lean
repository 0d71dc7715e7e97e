/- chart.known. -/
import Derived.Test.YtgjmbmlmopomgaaCm
import Derived.Test.YtgjmbmlmopomgaaCr
namespace Go.Proofs.Ytgjmbmlmopomgaa
open Go.RowKit
set_option linter.unusedSimpArgs false
set_option linter.unusedVariables false

set_option maxRecDepth 100000 in
set_option maxHeartbeats 4000000 in
theorem m_known (c : CV) (g : GV) (w : World) (hc : c.ok w) (hg : g.ok w) : Calls Try.prog 31 #[.agg #[.slice c.A c.n c.c], .agg #[.slice g.st.A g.st.n g.st.c, .slice g.fr.A g.fr.n g.fr.c, .slice g.out.A g.out.n g.out.c]] w fun e w' => e = .returned (.int .i64 (g.known c)) ∧ Below w.heap.size w w' := by
  obtain ⟨A, n, cc, l⟩ := c
  obtain ⟨⟨gA, gn, gc, gl⟩, ⟨fA, fn, fc, fl⟩, ⟨oA, on, oc, ol⟩⟩ := g
  have hl := hc.1
  have hgl := hg.1.1
  have hn : n ≤ 17592186044416 := hc.2.2.1
  have hgn : gn ≤ 17592186044416 := hg.1.2.2.1
  have hO0 := Own.two w 24 29 #[.slice A n cc] #[.slice gA gn gc, .slice fA fn fc, .slice oA on oc]
  have hcall := m_valid ⟨A, n, cc, l⟩ _ (hc.below hO0.1 (Nat.le_refl _))
  have hval : Hid (GV.known ⟨A, n, cc, l⟩ ⟨⟨gA, gn, gc, gl⟩, ⟨fA, fn, fc, fl⟩, ⟨oA, on, oc, ol⟩⟩ = if CV.valid ⟨A, n, cc, l⟩ = 0 then (if GV.fine ⟨A, n, cc, l⟩ ⟨⟨gA, gn, gc, gl⟩, ⟨fA, fn, fc, fl⟩, ⟨oA, on, oc, ol⟩⟩ = true then 0 else 1) else CV.valid ⟨A, n, cc, l⟩) := rfl
  have hset : Hid (∀ w', Below w.heap.size w w' → Calls Try.prog 48 #[.slice oA on oc] w' fun e w'' => e = .returned (.bool (rises ol)) ∧ Below w'.heap.size w' w'') := fun w' hb => m_set ⟨oA, on, oc, ol⟩ w' (hg.2.2.below hb (Nat.le_refl _))
  have hnam : Hid (∀ w', Below w.heap.size w w' → Calls Try.prog 27 #[.slice oA on oc] w' fun e w'' => e = .returned (.bool (SL.names ⟨oA, on, oc, ol⟩)) ∧ Below w'.heap.size w' w'') := fun w' hb => m_names ⟨oA, on, oc, ol⟩ w' (hg.2.2.below hb (Nat.le_refl _))
  replace hc := Lib.hid hc
  replace hg := Lib.hid hg
  replace hO0 := Lib.hid hO0
  simp only at hl hgl ⊢ hcall
  generalize hV : CV.valid ⟨A, n, cc, l⟩ = V at hcall hval
  by_cases hV0 : V = 0
  · subst hV0
    clear hV
    rw [if_pos rfl] at hval
    have hgc := g_cases ⟨A, n, cc, l⟩ ⟨⟨gA, gn, gc, gl⟩, ⟨fA, fn, fc, fl⟩, ⟨oA, on, oc, ol⟩⟩
    simp only at hgc
    go_enter Try.func31, Try.ntmps31
    rcases hgc with ⟨q1, hv⟩ | ⟨q1, q2, hv⟩ | ⟨q1, q2, q3, hv⟩ | ⟨q1, q2, q3, q4, hv⟩ | ⟨q1, q2, q3, q4, hv⟩
    all_goals
      have hv' := Lib.hid hv
      clear hv
      (try have p1 : ((gn : Int) != (n : Int)) = true := by simp only [bne, q1]; rfl)
      (try have p1 : ((gn : Int) != (n : Int)) = false := by simp only [bne, q1]; rfl)
      (try have p2 : ((fn : Int) != (n : Int)) = true := by simp only [bne, q2]; rfl)
      (try have p2 : ((fn : Int) != (n : Int)) = false := by simp only [bne, q2]; rfl)
      (try simp only [q3] at hset)
      (try simp only [q4] at hnam)
      go_wp2_with (first
        | (go_at_call 9; refine hcall.mono ?_; rintro e w3 ⟨rfl, hb3⟩; have hO3 := Lib.hid (hO0.out.call hb3); have a0 := hO3.out.b0.cell 0; have b0 := hO3.out.b1.cell 0; have b1 := hO3.out.b1.cell 1; have b2 := hO3.out.b1.cell 2; simp only [List.getElem?_toArray, List.getElem?_cons_zero, List.getElem?_cons_succ] at a0 b0 b1 b2)
        | (go_at_call 48; (with_reducible refine (hset.out _ (Own.lo hO3.out)).mono ?_); rintro e w4 ⟨rfl, hb4⟩; have hO4 := Lib.hid (hO3.out.call hb4); have a0 := hO4.out.b0.cell 0; have b0 := hO4.out.b1.cell 0; have b1 := hO4.out.b1.cell 1; have b2 := hO4.out.b1.cell 2; simp only [List.getElem?_toArray, List.getElem?_cons_zero, List.getElem?_cons_succ] at a0 b0 b1 b2)
        | (go_at_call 27; (with_reducible refine (hnam.out _ (Own.lo hO4.out)).mono ?_); rintro e w5 ⟨rfl, hb5⟩; have hO5 := Lib.hid (hO4.out.call hb5); have a0 := hO5.out.b0.cell 0; have b0 := hO5.out.b1.cell 0; have b1 := hO5.out.b1.cell 1; have b2 := hO5.out.b1.cell 2; simp only [List.getElem?_toArray, List.getElem?_cons_zero, List.getElem?_cons_succ] at a0 b0 b1 b2))
    · go_ret
      exact ⟨by rw [hval.out, if_neg (by rw [hv'.out]; simp)]; rfl, hO3.out.1⟩
    · go_ret
      exact ⟨by rw [hval.out, if_neg (by rw [hv'.out]; simp)]; rfl, hO3.out.1⟩
    · go_ret
      exact ⟨by rw [hval.out, if_neg (by rw [hv'.out]; simp)]; rfl, hO4.out.1⟩
    · go_ret
      exact ⟨by rw [hval.out, if_neg (by rw [hv'.out]; simp)]; rfl, hO5.out.1⟩
    · clear hcall hset hnam hO0 hO3 hO4
      have q5 : gn = n := by have h := eq_of_beq q1; omega
      clear q1 q2 q3 q4 p1 p2
      subst q5
      go_loopw [44] (fun v44 wr => RO w [(24, #[.slice A gn cc]), (29, #[.slice gA gn gc, .slice fA fn fc, .slice oA on oc])] gn (fun k => ∀ m x, l[k]? = some m → gl[k]? = some x → okIdx m.st.n x = true) v44 wr) (fun i _ => gn - (intOf i).toNat)
      case atStart => exact ⟨hO5.out, 0, by omega, rfl, fun j hj => absurd hj (Nat.not_lt_zero _)⟩
      case round =>
        clear hO5 a0 b0 b1 b2
        obtain ⟨hO, k, hk, rfl, hP⟩ := hrel
        replace hO := Lib.hid hO
        replace hP := Lib.hid hP
        by_cases hlt : k < gn
        · have a0 := hO.out.b0.cell 0
          simp only [List.getElem?_toArray, List.getElem?_cons_zero] at a0
          obtain ⟨b, o, m, hA, hgb, hm, hmo, c0, c1, c2, c3, c4⟩ := (hc.out.below hO.out.1 (Nat.le_refl _)).cell hlt
          obtain ⟨b2, o2, x, hA2, hg2, hx, hxx, d0⟩ := (hg.out.1.below hO.out.1 (Nat.le_refl _)).cell hlt
          obtain ⟨om, os, ⟨sA, sn, sc, sl⟩, fst, ⟨mA, mn, mc, ml⟩⟩ := m
          simp only at hA c0 c1 c2 c3 c4 hm hA2 hx
          subst hA
          subst hA2
          replace hm := Lib.hid hm
          replace hx := Lib.hid hx
          clear hmo hxx
          rcases okIdx_cases sn x with ⟨q1, hz⟩ | ⟨q1, q2, hz⟩ | ⟨q1, q2, hz⟩
          · have hv := Lib.hid (st_no hm.out hx.out hz)
            clear hz
            go_wp2_with fail
            go_ret
            exact ⟨by rw [hval.out, if_neg (by rw [hv'.out, hv.out]; simp)]; rfl, hO.out.1⟩
          · have hv := Lib.hid (st_no hm.out hx.out hz)
            clear hz
            go_wp2_with fail
            go_ret
            exact ⟨by rw [hval.out, if_neg (by rw [hv'.out, hv.out]; simp)]; rfl, hO.out.1⟩
          · replace hz := Lib.hid hz
            go_wp2_with fail
            go_roundw
            case rel => exact RO.next hO.out hlt (by go_num) hP.out (fun m' x' hm' hx' => by rw [hm.out] at hm'; rw [hx.out] at hx'; cases hm'; cases hx'; exact hz.out)
            case measure => simp [intOf]; omega
        · have hv : Hid (statesOk l gl = true) := st_yes hgl (fun k hk => hP.out k (by omega)) hl
          go_wp2_with fail
          go_ret
          exact ⟨by rw [hval.out, if_pos (by rw [hv'.out, hv.out])]; rfl, hO.out.1⟩
  · rw [if_neg hV0] at hval
    have hVb : (V == 0) = false := by simpa using hV0
    have hVc : (V != 0) = true := by simpa using hV0
    clear hV hV0 hset hnam
    go_enter Try.func31, Try.ntmps31
    go_wp2_with (go_at_call 9; refine hcall.mono ?_; rintro e w3 ⟨rfl, hb3⟩; have hO3 := Lib.hid (hO0.out.call hb3))
    go_ret
    exact ⟨by rw [hval.out]; rfl, hO3.out.1⟩

end Go.Proofs.Ytgjmbmlmopomgaa
