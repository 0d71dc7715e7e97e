/- The program's Validate. -/
import Derived.Test.YtgjmbmlmopomgaaCl
import Derived.Test.YtgjmbmlmopomgaaShelf
namespace Go.Proofs.Ytgjmbmlmopomgaa
open Go.RowKit
set_option linter.unusedSimpArgs false
set_option linter.unusedVariables false

theorem contains_dup {l : List ByteArray} {a : Nat} {x : ByteArray} (hx : l[a]? = some x) : Lib.containsS (l.take a) x = dupAt l a := by
  rw [Bool.eq_iff_iff, Lib.containsS_iff]
  unfold dupAt
  rw [List.any_eq_true]
  constructor
  · intro h
    obtain ⟨j, hj, hjx⟩ := List.mem_iff_getElem.1 h
    rw [List.length_take] at hj
    rw [List.getElem_take] at hjx
    refine ⟨j, List.mem_range.2 (by omega), ?_⟩
    rw [same_eq hx (List.getElem?_eq_getElem (by omega)), hjx]
    simp
  · rintro ⟨j, hj, hs⟩
    rw [List.mem_range] at hj
    have hal := (List.getElem?_eq_some_iff.1 hx).1
    have e : l[j]? = some l[j] := List.getElem?_eq_getElem (by omega)
    rw [same_eq hx e, beq_iff_eq, ByteArray.toList_eq, ByteArray.toList_eq] at hs
    have : l[j] = x := by
      have h2 : x.data = l[j].data := Array.toList_inj.1 hs
      cases hx' : l[j] with | mk d => rw [hx'] at h2; cases x with | mk d2 => simp at h2; rw [h2]
    rw [← this]
    exact List.mem_iff_getElem.2 ⟨j, by rw [List.length_take]; omega, by rw [List.getElem_take]⟩

theorem mv_cases2 (n : Nat) (v : MvV) :
    (okIdx n v.frm = false ∧ v.fine n = false) ∨
    (okIdx n v.frm = true ∧ okIdx n v.dst = false ∧ v.fine n = false) ∨
    (okIdx n v.frm = true ∧ okIdx n v.dst = true ∧ v.wh.names = false ∧ v.fine n = false) ∨
    (okIdx n v.frm = true ∧ okIdx n v.dst = true ∧ v.wh.names = true ∧ v.no.names = false ∧ v.fine n = false) ∨
    (okIdx n v.frm = true ∧ okIdx n v.dst = true ∧ v.wh.names = true ∧ v.no.names = true ∧ v.em.names = false ∧ v.fine n = false) ∨
    (okIdx n v.frm = true ∧ okIdx n v.dst = true ∧ v.wh.names = true ∧ v.no.names = true ∧ v.em.names = true ∧ v.fine n = true) := by
  unfold MvV.fine
  cases okIdx n v.frm <;> cases okIdx n v.dst <;> cases v.wh.names <;> cases v.no.names <;> cases v.em.names <;> simp

set_option maxRecDepth 100000 in
set_option maxHeartbeats 4000000 in
theorem m_valid (c : CV) (w : World) (hc : c.ok w) : Calls Try.prog 9 #[.agg #[.slice c.A c.n c.c]] w fun e w' => e = .returned (.int .i64 c.valid) ∧ Below w.heap.size w w' := by
  obtain ⟨A, n, cc, l⟩ := c
  have hl := hc.1
  replace hc := Lib.hid hc
  simp only at hl ⊢
  have hval : Hid (CV.valid ⟨A, n, cc, l⟩ = if CV.big ⟨A, n, cc, l⟩ = true then 3 else if n = 0 then 1 else if fineAll l = true then (if l.any (fun m => dupS m.st.l) = true then 5 else 0) else 1) := rfl
  have hO0 := Lib.hid (Own.one w 24 #[.slice A n cc])
  go_enter Try.func9, Try.ntmps9
  by_cases h1 : 6 < n
  · have hv : Hid (CV.big ⟨A, n, cc, l⟩ = true) := by show _ = _; unfold CV.big; simp [h1]
    have hb : Below w.heap.size w (w.alloc (.cells #[Value.slice A n cc] 24)) := (Below.refl _ _).alloc (Nat.le_refl _) _
    go_wp2_with fail
    go_ret
    exact ⟨by rw [hval.out, if_pos hv.out]; rfl, hb⟩
  · have h1n : n ≤ 6 := by omega
    have hb : Below w.heap.size w (w.alloc (.cells #[Value.slice A n cc] 24)) := (Below.refl _ _).alloc (Nat.le_refl _) _
    go_wp2_with fail
    go_loopw [24] (fun v14 wr => RO w [(24, #[.slice A n cc])] n (fun j => ∀ m, l[j]? = some m → m.big = false) v14 wr) (fun i _ => n - (intOf i).toNat)
    case atStart => exact ⟨hO0.out, 0, by omega, rfl, fun j hj => absurd hj (Nat.not_lt_zero _)⟩
    case round =>
      obtain ⟨hO, i, hi, rfl, hP⟩ := hrel
      have hbr := hO.1
      replace hO := Lib.hid hO
      clear hO0
      replace hP := Lib.hid hP
      by_cases hlt : i < n
      · obtain ⟨g, o, m, hA, hg, hm, hmo, c0, c1, c2, c3, c4⟩ := (hc.out.below hbr (Nat.le_refl _)).cell hlt
        obtain ⟨om, os, ⟨sA, sn, sc, sl⟩, fst, ⟨mA, mn, mc, ml⟩⟩ := m
        simp only at hA c0 c1 c2 c3 c4
        subst hA
        have hbw : Below w.heap.size w (wr.alloc (.cells #[.int .i64 om, .int .i64 os, .slice sA sn sc, .int .i64 fst, .slice mA mn mc] 50)) := hbr.alloc hbr.size _
        have hbi : Below wr.heap.size wr (wr.alloc (.cells #[.int .i64 om, .int .i64 os, .slice sA sn sc, .int .i64 fst, .slice mA mn mc] 50)) := (Below.refl _ _).alloc (Nat.le_refl _) _
        have hbig : Hid (∀ b, McV.big ⟨om, os, ⟨sA, sn, sc, sl⟩, fst, ⟨mA, mn, mc, ml⟩⟩ = true → CV.big ⟨some ⟨g, o, none⟩, n, cc, l⟩ = b → b = true) := fun b hb hc => by
          rw [← hc]
          unfold CV.big
          simp only [any_of hm hb, Bool.or_true]
        by_cases h24 : 24 < sn
        · have hv : Hid (CV.big ⟨some ⟨g, o, none⟩, n, cc, l⟩ = true) := hbig.out _ (by unfold McV.big; simp [h24]) rfl
          clear hbig hP
          go_wp2_with fail
          go_ret
          exact ⟨by rw [hval.out, if_pos hv.out]; rfl, hbw⟩
        · by_cases h400 : 400 < mn
          · have hv : Hid (CV.big ⟨some ⟨g, o, none⟩, n, cc, l⟩ = true) := hbig.out _ (by unfold McV.big; simp [h400]) rfl
            clear hbig hP
            go_wp2_with fail
            go_ret
            exact ⟨by rw [hval.out, if_pos hv.out]; rfl, hbw⟩
          · have hm' := Lib.hid hm
            have hmo' := Lib.hid hmo.2.2.2.2
            clear hm hmo
            obtain ⟨w1, hw1⟩ : ∃ w1, w1 = wr := ⟨_, rfl⟩
            subst hw1
            go_wp2_with fail
            go_loopw [41] (fun v31 w3 => RA w1 mn (fun j => ∀ v, ml[j]? = some v → v.big = false) v31 w3) (fun i _ => mn - (intOf i).toNat)
            case atStart => exact ⟨hbi, 0, by omega, rfl, fun j hj => absurd hj (Nat.not_lt_zero _)⟩
            case round =>
              obtain ⟨hb3, j, hj, rfl, hQ⟩ := hrel
              replace hQ := Lib.hid hQ
              by_cases hltj : j < mn
              · obtain ⟨g2, o2, v, hA2, hg2, hv, hvo, d0, d1, d2, d3, d4, d5, d6⟩ := (hmo'.out.below hb3 (Nat.le_refl _)).cell hltj
                obtain ⟨frm, dst, ⟨wA, wn, wc, wl⟩, ⟨nA, nn, nc, nl⟩, ⟨eA, en, ec, el⟩, late, keep⟩ := v
                simp only at hA2 d0 d1 d2 d3 d4 d5 d6
                subst hA2
                have hbn : Below w1.heap.size w1 (wr.alloc (.cells #[.int .i64 frm, .int .i64 dst, .slice wA wn wc, .slice nA nn nc, .slice eA en ec, .bool late, .bool keep] 52)) := hb3.alloc hb3.size _
                have hbn2 : Below w.heap.size w (wr.alloc (.cells #[.int .i64 frm, .int .i64 dst, .slice wA wn wc, .slice nA nn nc, .slice eA en ec, .bool late, .bool keep] 52)) := hbr.trans (hbn.mono hbr.size)
                have hbg2 : Hid (MvV.big ⟨frm, dst, ⟨wA, wn, wc, wl⟩, ⟨nA, nn, nc, nl⟩, ⟨eA, en, ec, el⟩, late, keep⟩ = true → CV.big ⟨some ⟨g, o, none⟩, n, cc, l⟩ = true) := fun h => by
                  refine hbig.out _ ?_ rfl
                  unfold McV.big
                  simp only [any_of hv h, Bool.or_true]
                have hv' := Lib.hid hv
                clear hv hvo hbig
                by_cases e1 : 64 < wn
                · have hv : Hid (CV.big ⟨some ⟨g, o, none⟩, n, cc, l⟩ = true) := hbg2.out (by unfold MvV.big; simp [e1])
                  clear hbg2
                  go_wp2_with fail
                  go_ret
                  exact ⟨by rw [hval.out, if_pos hv.out]; rfl, hbn2⟩
                · by_cases e2 : 64 < nn
                  · have hv : Hid (CV.big ⟨some ⟨g, o, none⟩, n, cc, l⟩ = true) := hbg2.out (by unfold MvV.big; simp [e2])
                    clear hbg2
                    go_wp2_with fail
                    go_ret
                    exact ⟨by rw [hval.out, if_pos hv.out]; rfl, hbn2⟩
                  · by_cases e3 : 64 < en
                    · have hv : Hid (CV.big ⟨some ⟨g, o, none⟩, n, cc, l⟩ = true) := hbg2.out (by unfold MvV.big; simp [e3])
                      clear hbg2
                      go_wp2_with fail
                      go_ret
                      exact ⟨by rw [hval.out, if_pos hv.out]; rfl, hbn2⟩
                    · go_wp2_with fail
                      go_roundw
                      case rel => exact RA.next hbn hltj (by go_num) hQ.out (fun v hv2 => by rw [hv'.out] at hv2; cases hv2; unfold MvV.big; simp [e1, e2, e3])
                      case measure => simp [intOf]; omega
              · have hmb : Hid (McV.big ⟨om, os, ⟨sA, sn, sc, sl⟩, fst, ⟨mA, mn, mc, ml⟩⟩ = false) := by
                  have ha : ml.any MvV.big = false := any_not (n := mn) hmo'.out.1 fun k hk => hQ.out k (by omega)
                  show _ = _
                  unfold McV.big
                  simp only [ha, Bool.or_false]
                  simp [h24, h400]
                have hbn := hO.out.call hb3
                go_wp2_with fail
                go_roundw
                case rel => exact RO.next hbn hlt (by go_num) hP.out (fun m hm2 => by rw [hm'.out] at hm2; cases hm2; exact hmb.out)
                case measure => simp [intOf]; omega
      · have hv : Hid (CV.big ⟨A, n, cc, l⟩ = false) := by
          have ha : l.any McV.big = false := any_not (n := n) hl fun k hk => hP.out k (by omega)
          show _ = _
          unfold CV.big
          simp only [ha, Bool.or_false]
          simp [h1]
        rw [if_neg (by rw [hv.out]; simp)] at hval
        have a0 := hO.out.b0.cell 0
        simp only [List.getElem?_toArray, List.getElem?_cons_zero] at a0
        clear hP hv
        by_cases hn0 : n = 0
        · have hv : Hid (CV.valid ⟨A, n, cc, l⟩ = 1) := by show _ = _; rw [hval.out, if_pos hn0]
          have hn0b : ((n : Int) == 0) = true := by simp [hn0]

          clear hval hn0
          go_wp2_with fail
          go_ret
          exact ⟨by rw [hv.out]; rfl, hbr⟩
        · rw [if_neg hn0] at hval
          have hn0b : ((n : Int) == 0) = false := by simp; omega

          clear hn0
          have hn : n ≤ 17592186044416 := by omega
          have hmf : ∀ (fn : Fn) (first cap : Array Value) (w : World), (Instr.makeFunc fn first cap).run Try.prog w = .ok (.func fn first cap) w := fun _ _ _ _ => rfl
          go_wp2_with fail
          clear a0 hn0b
          go_loopw [70] (fun v70 wr => RO w [(24, #[.slice A n cc])] n (fun k => ∀ m, l[k]? = some m → m.fine l k = true) v70 wr) (fun i _ => n - (intOf i).toNat)
          case atStart => exact ⟨hO.out, 0, by omega, rfl, fun j hj => absurd hj (Nat.not_lt_zero _)⟩
          case round =>
            clear hO hbr hb hlt hi
            obtain ⟨hO, k, hk, rfl, hP⟩ := hrel
            have hbr := hO.1
            replace hO := Lib.hid hO
            replace hP := Lib.hid hP
            by_cases hlt : k < n
            · obtain ⟨g, o, m, hA, hg, hm, hmo, c0, c1, c2, c3, c4⟩ := (hc.out.below hbr (Nat.le_refl _)).cell hlt
              obtain ⟨om, os, ⟨sA, sn, sc, sl⟩, fst, ⟨mA, mn, mc, ml⟩⟩ := m
              simp only at hA c0 c1 c2 c3 c4 hm
              subst hA
              obtain ⟨hm1, hm2, hm3, hm4, hm5⟩ := hmo
              obtain ⟨w1, hw1⟩ : ∃ w1, w1 = wr := ⟨_, rfl⟩
              subst hw1
              have hst := names_m hm3
              have hmn : mn ≤ 17592186044416 := hm5.2.2.1
              replace hm5 := Lib.hid hm5
              have hfin : Hid (McV.fine l k ⟨om, os, ⟨sA, sn, sc, sl⟩, fst, ⟨mA, mn, mc, ml⟩⟩ = ((okIdx sn fst && SL.names ⟨sA, sn, sc, sl⟩) && ownOk l k ⟨om, os, ⟨sA, sn, sc, sl⟩, fst, ⟨mA, mn, mc, ml⟩⟩ && ml.all (MvV.fine sn))) := rfl
              obtain ⟨bn, hbn⟩ : ∃ bn, SL.names ⟨sA, sn, sc, sl⟩ = bn := ⟨_, rfl⟩
              simp only [hbn] at hst
              rw [hbn] at hfin
              have hB := Lib.hid (Blk.new w1 50 #[.int .i64 om, .int .i64 os, .slice sA sn sc, .int .i64 fst, .slice mA mn mc])
              have hS := Lib.hid ((Below.refl w1.heap.size w1).alloc (Nat.le_refl _) (.cells #[.int .i64 om, .int .i64 os, .slice sA sn sc, .int .i64 fst, .slice mA mn mc] 50))
              have hst1 : Hid (∀ w', Below w1.heap.size w1 w' → Calls Try.prog 27 #[.slice sA sn sc] w' fun e w'' => e = .returned (.bool bn) ∧ Below w'.heap.size w' w'') := hst
              clear hst hbn hm3
              cases hof : okIdx sn fst with
              | false =>
                have hf : McV.fine l k ⟨om, os, ⟨sA, sn, sc, sl⟩, fst, ⟨mA, mn, mc, ml⟩⟩ = false := by rw [hfin.out, hof]; rfl
                have hv : Hid (CV.valid ⟨some ⟨g, o, none⟩, n, cc, l⟩ = 1) := by show _ = _; rw [hval.out, if_neg (by rw [fineAll_no hm hf]; simp)]
                clear hval hfin hf hm
                go_wp2_with (go_at_call 26; refine (m_isState _ om os fst sA mA sn sc mn mc _ _ hB.out).mono ?_; rintro e w6 ⟨rfl, rfl⟩)
                go_ret
                exact ⟨by rw [hv.out]; rfl, hbr.trans (hS.out.mono hbr.size)⟩
              | true =>
                cases bn with
                | false =>
                  have hf : McV.fine l k ⟨om, os, ⟨sA, sn, sc, sl⟩, fst, ⟨mA, mn, mc, ml⟩⟩ = false := by rw [hfin.out, hof]; rfl
                  have hv : Hid (CV.valid ⟨some ⟨g, o, none⟩, n, cc, l⟩ = 1) := by show _ = _; rw [hval.out, if_neg (by rw [fineAll_no hm hf]; simp)]
                  clear hval hfin hf hm
                  go_wp2_with (first | (go_at_call 26; refine (m_isState _ om os fst sA mA sn sc mn mc _ _ hB.out).mono ?_; rintro e w6 ⟨rfl, rfl⟩; have p2 := hB.out.cell 2; simp only [List.getElem?_toArray, List.getElem?_cons_zero, List.getElem?_cons_succ] at p2) | (go_at_call 27; refine (hst1.out _ hS.out).mono ?_; rintro e w7 ⟨rfl, hb7⟩; have hS := hS.out.trans (hb7.mono hS.out.size)))
                  go_ret
                  exact ⟨by rw [hv.out]; rfl, hbr.trans (hS.mono hbr.size)⟩
                | true =>
                  rw [hof] at hfin
                  simp only [Bool.true_and] at hfin
                  have heq := eq_place
                  have hback : Hid (∀ j : Nat, om = j → j < k → ∃ A' c', w1.cell? ⟨g, o + j * 5 + 2, none⟩ = some (.slice A' (stN l om) c')) := fun j hj hjk => by
                    obtain ⟨g', o', m', hA', hg', hm', hmo', d0, d1, d2, d3, d4⟩ := (hc.out.below hbr (Nat.le_refl _)).cell (j := j) (by simp only; omega)
                    simp only at hA' hm'
                    cases hA'
                    have : stN l om = m'.st.n := by unfold stN; rw [hj, Int.toNat_natCast, hm']
                    exact ⟨_, _, by rw [this]; exact d2⟩
                  have how := ow_cases l k ⟨om, os, ⟨sA, sn, sc, sl⟩, fst, ⟨mA, mn, mc, ml⟩⟩
                  simp only at how
                  rcases how with ⟨q1, q2, hv2⟩ | ⟨q1, q2, hv2⟩ | ⟨q1, q2, hv2⟩ | ⟨q1, q2, q3, hv2⟩ | ⟨q1, ⟨j, hj, hjk⟩, q2, hv2⟩ | ⟨q1, ⟨j, hj, hjk⟩, q2, q3, hv2⟩ | ⟨q1, ⟨j, hj, hjk⟩, q2, q3, hv2⟩
                  all_goals (try (obtain ⟨A', c', hcj⟩ := hback.out j hj hjk; have hgj := hg; obtain ⟨n', hn'⟩ : ∃ n', n' = stN l om := ⟨_, rfl⟩; rw [← hn'] at hcj; rw [hj] at hn'))
                  all_goals (try (rw [hj, ← hn'] at q3))
                  all_goals (try clear hn')
                  all_goals (try (subst hj))
                  all_goals (try (have hjn : j < n := Nat.lt_trans hjk hlt; have hjk2 : decide (k ≤ j) = false := by simp; omega))
                  all_goals (try (have hj3 : decide ((j : Int) < 0) = false := by simp))
                  all_goals (try (have hj4 : decide ((k : Int) ≤ (j : Int)) = false := by simp; omega))
                  all_goals (try (have q4 : (os == 0) = false := by simpa [bne] using q2))
                  all_goals (try (have q4 : (os == 0) = true := by simpa [bne] using q2))
                  all_goals (try (have q5 : decide (om < 0) = true := by (rw [show om = -1 from by simpa using q1]; rfl)))
                  all_goals
                    simp only [hv2, Bool.true_and, Bool.false_and] at hfin
                    clear hback hv2
                    go_wp2_with (first | (go_at_call 26; refine (m_isState _ _ os fst sA mA sn sc mn mc _ _ hB.out).mono ?_; rintro e w6 ⟨rfl, rfl⟩; have p2 := hB.out.cell 2; simp only [List.getElem?_toArray, List.getElem?_cons_zero, List.getElem?_cons_succ] at p2) | (go_at_call 27; refine (hst1.out _ hS.out).mono ?_; rintro e w7 ⟨rfl, hb7⟩; have hS7 := Lib.hid (hS.out.trans (hb7.mono hS.out.size)); have hB7 := hB.out.below hb7 hB.out.lt; have a0 := hB7.cell 0; have a1 := hB7.cell 1; have b4 := fun x => (hB7.alloc x).cell 4; have hO7 := hO.out.call hS7.out; have b0 := fun x => (hO7.more x).b0.cell 0; simp only [List.getElem?_toArray, List.getElem?_cons_zero, List.getElem?_cons_succ] at a0 a1 b0 b4; try (have b2 := fun x => ((hS7.out.alloc hS7.out.size x).cell (p := ⟨g, o + j * 5 + 2, none⟩) hgj).trans hcj)))
                  all_goals (try (go_region; all_goals go_wp2_with fail))
                  all_goals have hbx := fun x => Lib.hid (hbr.trans ((hS7.out.alloc hS7.out.size x).mono hbr.size))
                  all_goals have hO1 := fun x => Lib.hid (((Own.one w1 50 _).call hb7).more x)
                  all_goals clear c0 c1 c2 c3 c4 heq hB7 a0 a1 b0 b4 hO7
                  all_goals (try clear b2)
                  iterate 5
                    first
                    | (focus
                        have hv : Hid (CV.valid ⟨some ⟨g, o, none⟩, n, cc, l⟩ = 1) := by show _ = _; rw [hval.out, if_neg (by rw [fineAll_no hm hfin.out]; simp)]
                        go_ret
                        exact ⟨by rw [hv.out]; rfl, by first | exact (hbx _).out | exact (hbx _).out.drew⟩)
                    | rotate_left
                  all_goals (try (focus
                        have hv : Hid (CV.valid ⟨some ⟨g, o, none⟩, n, cc, l⟩ = 1) := by show _ = _; rw [hval.out, if_neg (by rw [fineAll_no hm hfin.out]; simp)]
                        go_ret
                        exact ⟨by rw [hv.out]; rfl, by first | exact (hbx _).out | exact (hbx _).out.drew⟩))
                  all_goals
                    replace hm := Lib.hid hm
                    go_loopw [124] (fun v124 wr => RO w1 _ mn (fun j => ∀ v, ml[j]? = some v → v.fine sn = true) v124 wr) (fun i _ => mn - (intOf i).toNat)
                    case atStart => exact ⟨by first | exact (hO1 _).out | exact (hO1 _).out.drew, 0, by omega, rfl, fun j hj => absurd hj (Nat.not_lt_zero _)⟩
                    case round =>
                      clear hO1 hbx
                      obtain ⟨hOr, i2, hi2, rfl, hQ⟩ := hrel
                      have hb1r := hOr.1
                      replace hOr := Lib.hid hOr
                      replace hQ := Lib.hid hQ
                      by_cases hlt2 : i2 < mn
                      · obtain ⟨g2, o2, v, hA2, hg2, hv3, hvo, d0, d1, d2, d3, d4, d5, d6⟩ := (hm5.out.below hb1r (Nat.le_refl _)).cell hlt2
                        have hvc := mv_cases2 sn v
                        have hx1 := names_m hvo.2.2.1
                        have hx2 := names_m hvo.2.2.2.1
                        have hx3 := names_m hvo.2.2.2.2
                        have hno : Hid (v.fine sn = false → ml.all (MvV.fine sn) = false) := fun h => all_not hv3 h
                        have hyes : Hid (v.fine sn = true → ∀ v', ml[i2]? = some v' → v'.fine sn = true) := fun h v' hv' => by rw [hv3] at hv'; cases hv'; exact h
                        clear hv3 hvo
                        obtain ⟨bf, hbf⟩ : ∃ bf, v.fine sn = bf := ⟨_, rfl⟩
                        obtain ⟨b1, hb1⟩ : ∃ b1, v.wh.names = b1 := ⟨_, rfl⟩
                        obtain ⟨b2, hb2⟩ : ∃ b2, v.no.names = b2 := ⟨_, rfl⟩
                        obtain ⟨b3, hb3⟩ : ∃ b3, v.em.names = b3 := ⟨_, rfl⟩
                        rw [hbf] at hvc hno hyes
                        rw [hb1] at hvc hx1
                        rw [hb2] at hvc hx2
                        rw [hb3] at hvc hx3
                        clear hbf hb1 hb2 hb3
                        obtain ⟨frm, dst, ⟨wA, wn, wc, wl⟩, ⟨nA, nn, nc, nl⟩, ⟨eA, en, ec, el⟩, late, keep⟩ := v
                        simp only at hA2 d0 d1 d2 d3 d4 d5 d6 hvc
                        subst hA2
                        have hn1 : Hid (∀ w', Below wr.heap.size wr w' → Calls Try.prog 27 #[.slice wA wn wc] w' fun e w'' => e = .returned (.bool b1) ∧ Below w'.heap.size w' w'') := hx1
                        have hn2 : Hid (∀ w', Below wr.heap.size wr w' → Calls Try.prog 27 #[.slice nA nn nc] w' fun e w'' => e = .returned (.bool b2) ∧ Below w'.heap.size w' w'') := hx2
                        have hn3 : Hid (∀ w', Below wr.heap.size wr w' → Calls Try.prog 27 #[.slice eA en ec] w' fun e w'' => e = .returned (.bool b3) ∧ Below w'.heap.size w' w'') := hx3
                        clear hx1 hx2 hx3
                        have hSm := Lib.hid ((Below.refl wr.heap.size wr).alloc (Nat.le_refl _) (.cells #[.int .i64 frm, .int .i64 dst, .slice wA wn wc, .slice nA nn nc, .slice eA en ec, .bool late, .bool keep] 52))
                        have hBm := Lib.hid (Blk.new wr 52 #[.int .i64 frm, .int .i64 dst, .slice wA wn wc, .slice nA nn nc, .slice eA en ec, .bool late, .bool keep])
                        have hM := Lib.hid (hOr.out.b0.alloc (.cells #[.int .i64 frm, .int .i64 dst, .slice wA wn wc, .slice nA nn nc, .slice eA en ec, .bool late, .bool keep] 52))
                        clear hB hS hS7
                        rcases hvc with ⟨r1, hvf⟩ | ⟨r1, r2, hvf⟩ | ⟨r1, r2, r3, hvf⟩ | ⟨r1, r2, r3, r4, hvf⟩ | ⟨r1, r2, r3, r4, r5, hvf⟩ | ⟨r1, r2, r3, r4, r5, hvf⟩
                        all_goals subst hvf
                        all_goals (try subst r3)
                        all_goals (try subst r4)
                        all_goals (try subst r5)
                        all_goals (first | (have hvv := Lib.hid (hno.out rfl); clear hno hyes) | (have hvv := Lib.hid (hyes.out rfl); clear hno hyes))
                        all_goals
                          go_wp2_with (first
                            | (go_at_call 26; refine (m_isState _ _ _ _ _ _ _ _ _ _ _ _ hM.out).mono ?_; rintro e w8 ⟨rfl, rfl⟩)
                            | (go_at_call 27; first
                              | ((with_reducible refine (hn1.out _ hSm.out).mono ?_); rintro e w8 ⟨rfl, hb8⟩; have hBm := Lib.hid (hBm.out.below hb8 hBm.out.lt); have hSm := Lib.hid (hSm.out.trans (hb8.mono hSm.out.size)); have p3 := hBm.out.cell 3; simp only [List.getElem?_toArray, List.getElem?_cons_zero, List.getElem?_cons_succ] at p3)
                              | ((with_reducible refine (hn2.out _ hSm.out).mono ?_); rintro e w8 ⟨rfl, hb8⟩; have hBm := Lib.hid (hBm.out.below hb8 hBm.out.lt); have hSm := Lib.hid (hSm.out.trans (hb8.mono hSm.out.size)); have p4 := hBm.out.cell 4; simp only [List.getElem?_toArray, List.getElem?_cons_zero, List.getElem?_cons_succ] at p4)
                              | ((with_reducible refine (hn3.out _ hSm.out).mono ?_); rintro e w8 ⟨rfl, hb8⟩; have hBm := Lib.hid (hBm.out.below hb8 hBm.out.lt); have hSm := Lib.hid (hSm.out.trans (hb8.mono hSm.out.size)))))
                        all_goals have hS' := Lib.hid (hbr.trans ((hb1r.trans (hSm.out.mono hb1r.size)).mono hbr.size))
                        all_goals (try (focus
                          have hv : Hid (CV.valid ⟨some ⟨g, o, none⟩, n, cc, l⟩ = 1) := by show _ = _; rw [hval.out, if_neg (by rw [fineAll_no hm.out (by rw [hfin.out, hvv.out])]; simp)]
                          go_ret
                          exact ⟨by rw [hv.out]; rfl, hS'.out⟩))
                        all_goals have hOx := Lib.hid (hOr.out.call hSm.out)
                        go_roundw
                        case rel => exact RO.next hOx.out hlt2 (by go_num) hQ.out hvv.out
                        case measure => simp [intOf]; omega
                      · have ha : ml.all (MvV.fine sn) = true := all_of (n := mn) hm5.out.1 fun j hj => hQ.out j (by omega)
                        have hff := Lib.hid (hfin.out.trans ha)
                        have hOx := Lib.hid (hO.out.call hb1r)
                        go_wp2_with fail
                        go_roundw
                        case rel => exact RO.next hOx.out hlt (by go_num) hP.out (fun m hm2 => by rw [hm.out] at hm2; cases hm2; exact hff.out)
                        case measure => simp [intOf]; omega
            · have hfa : fineAll l = true := fineAll_yes hl fun k hk => hP.out k (by omega)
              replace hval : Hid (CV.valid ⟨A, n, cc, l⟩ = if l.any (fun m => dupS m.st.l) = true then 5 else 0) := by show _ = _; rw [hval.out, if_pos hfa]
              clear hP hfa
              have a0 := hO.out.b0.cell 0
              simp only [List.getElem?_toArray, List.getElem?_cons_zero] at a0
              obtain ⟨w5, hw5⟩ : ∃ w5, w5 = wr := ⟨_, rfl⟩
              subst hw5
              go_wp2_with fail
              clear hO a0
              go_loopw [163] (fun v163 wr => RA w n (fun k => ∀ m, l[k]? = some m → dupS m.st.l = false) v163 wr) (fun i _ => n - (intOf i).toNat)
              case atStart => exact ⟨hbr, 0, by omega, rfl, fun j hj => absurd hj (Nat.not_lt_zero _)⟩
              case round =>
                clear hbr hlt
                obtain ⟨hbr, r, hr, rfl, hP⟩ := hrel
                replace hP := Lib.hid hP
                by_cases hlt : r < n
                · obtain ⟨g, o, m, hA, hg, hm, hmo, c0, c1, c2, c3, c4⟩ := (hc.out.below hbr (Nat.le_refl _)).cell hlt
                  have hst := hmo.2.2.1
                  clear hmo
                  have hdy : Hid (dupS m.st.l = true → CV.valid ⟨A, n, cc, l⟩ = 5) := fun h => by rw [hval.out, if_pos (List.any_eq_true.2 ⟨m, List.mem_of_getElem? hm, h⟩)]
                  obtain ⟨om, os, ⟨sA, sn, sc, sl⟩, fst, ⟨mA, mn, mc, ml⟩⟩ := m
                  simp only at hA c0 c1 c2 c3 c4 hst hdy
                  subst hA
                  replace hm := Lib.hid hm
                  have hsl := hst.1
                  have hsn : sn ≤ 17592186044416 := Nat.le_trans hst.2.2.1 (by decide)
                  have hsc : sn ≤ sc := hst.2.1
                  simp only at hsl
                  obtain ⟨w6, hw6⟩ : ∃ w6, w6 = wr := ⟨_, rfl⟩
                  subst hw6
                  have hO6 := Own.one w6 50 #[.int .i64 om, .int .i64 os, .slice sA sn sc, .int .i64 fst, .slice mA mn mc]
                  replace hst := Lib.hid hst
                  replace hO6 := Lib.hid hO6
                  go_wp2_with fail
                  clear c0 c1 c2 c3 c4
                  go_loopw [170] (fun v170 wr => RO w6 [(50, #[.int .i64 om, .int .i64 os, .slice sA sn sc, .int .i64 fst, .slice mA mn mc])] sn (fun k => dupAt sl k = false) v170 wr) (fun i _ => sn - (intOf i).toNat)
                  case atStart => exact ⟨hO6.out, 0, by omega, rfl, fun j hj => absurd hj (Nat.not_lt_zero _)⟩
                  case round =>
                    clear hO6
                    obtain ⟨hO, a, ha, rfl, hQ⟩ := hrel
                    replace hO := Lib.hid hO
                    replace hQ := Lib.hid hQ
                    by_cases hlta : a < sn
                    · have a2 := hO.out.b0.cell 2
                      simp only [List.getElem?_toArray, List.getElem?_cons_zero, List.getElem?_cons_succ] at a2
                      have hst' := hst.out.below hO.out.1 (Nat.le_refl _)
                      obtain ⟨g1, o1, x, hA1, hg1, hx, hxs, e1⟩ := hst'.cell hlta
                      have hcd := Lib.hid (contains_dup hx)
                      simp only at hA1 hx
                      subst hA1
                      have hcon := Try.slices_Contains_string g1 o1 a sc sl x wr (by omega) (by omega) (fun j hj => by
                        obtain ⟨g2, o2, y, hA2, hg2, hy, hys, e2⟩ := hst'.cell (j := j) (by simp only; omega)
                        simp only at hA2 hy
                        cases hA2
                        rw [List.getD_eq_getElem?_getD, hy]
                        exact e2)
                      clear hst' hx
                      obtain ⟨b, hb⟩ : ∃ b, dupAt sl a = b := ⟨_, rfl⟩
                      rw [show Lib.containsS (sl.take a) x = b from hcd.out.trans hb] at hcon
                      replace hb := Lib.hid hb
                      have hac : a ≤ sc := by omega
                      cases b with
                      | true =>
                        have hv : Hid (CV.valid ⟨some ⟨g, o, none⟩, n, cc, l⟩ = 5) := hdy.out (dupS_yes hsl hlta hb.out)
                        go_wp2_with (go_at_call 28; refine hcon.mono ?_; rintro e w8 ⟨rfl, rfl⟩)
                        go_ret
                        exact ⟨by rw [hv.out]; rfl, hbr.trans (hO.out.1.mono hbr.size)⟩
                      | false =>
                        go_wp2_with (go_at_call 28; refine hcon.mono ?_; rintro e w8 ⟨rfl, rfl⟩)
                        go_roundw
                        case rel => exact RO.next hO.out hlta (by go_num) hQ.out hb.out
                        case measure => simp [intOf]; omega
                    · have hds : dupS sl = false := dupS_no hsl fun j hj => hQ.out j (by omega)
                      replace hds := Lib.hid hds
                      have hbx := hbr.trans (hO.out.1.mono hbr.size)
                      go_wp2_with fail
                      go_roundw
                      case rel => exact RA.next hbx hlt (by go_num) hP.out (fun m hm2 => by rw [hm.out] at hm2; cases hm2; exact hds.out)
                      case measure => simp [intOf]; omega
                · have hna : l.any (fun m => dupS m.st.l) = false := any_not (n := n) hl fun k hk => hP.out k (by omega)
                  have hv : Hid (CV.valid ⟨A, n, cc, l⟩ = 0) := by show _ = _; rw [hval.out, if_neg (by rw [hna]; simp)]
                  go_wp2_with fail
                  go_ret
                  exact ⟨by rw [hv.out]; rfl, hbr⟩

end Go.Proofs.Ytgjmbmlmopomgaa
