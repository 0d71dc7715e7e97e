/- What a machine of a chart must be; the reference's isMachine. -/
import Derived.Test.YtgjmbmlmopomgaaCi
namespace Go.Proofs.Ytgjmbmlmopomgaa
open Go.RowKit
set_option linter.unusedSimpArgs false
set_option linter.unusedVariables false

def okIdx (n : Nat) (z : Int) : Bool := decide (0 ≤ z) && decide (z < n)
def MvV.fine (n : Nat) (v : MvV) : Bool := okIdx n v.frm && okIdx n v.dst && v.wh.names && v.no.names && v.em.names
def stN (l : List McV) (z : Int) : Nat := match l[z.toNat]? with | some m => m.st.n | none => 0
def ownOk (l : List McV) (k : Nat) (m : McV) : Bool := if m.om = -1 then m.os == 0 else okIdx k m.om && okIdx (stN l m.om) m.os
def McV.fine (l : List McV) (k : Nat) (m : McV) : Bool := okIdx m.st.n m.fst && m.st.names && ownOk l k m && m.mv.l.all (MvV.fine m.st.n)

theorem okIdx_cases (n : Nat) (z : Int) : (decide (z < 0) = true ∧ okIdx n z = false) ∨ (decide (z < 0) = false ∧ decide ((n : Int) ≤ z) = true ∧ okIdx n z = false) ∨ (decide (z < 0) = false ∧ decide ((n : Int) ≤ z) = false ∧ okIdx n z = true) := by
  unfold okIdx
  simp only [decide_eq_true_eq, decide_eq_false_iff_not, Bool.and_eq_false_iff, Bool.and_eq_true]
  omega

theorem mv_cases (n : Nat) (v : MvV) :
    (decide (v.frm < 0) = true ∧ v.fine n = false) ∨
    (decide (v.frm < 0) = false ∧ decide ((n : Int) ≤ v.frm) = true ∧ v.fine n = false) ∨
    (decide (v.frm < 0) = false ∧ decide ((n : Int) ≤ v.frm) = false ∧ decide (v.dst < 0) = true ∧ v.fine n = false) ∨
    (decide (v.frm < 0) = false ∧ decide ((n : Int) ≤ v.frm) = false ∧ decide (v.dst < 0) = false ∧ decide ((n : Int) ≤ v.dst) = true ∧ v.fine n = false) ∨
    (decide (v.frm < 0) = false ∧ decide ((n : Int) ≤ v.frm) = false ∧ decide (v.dst < 0) = false ∧ decide ((n : Int) ≤ v.dst) = false ∧ v.wh.names = false ∧ v.fine n = false) ∨
    (decide (v.frm < 0) = false ∧ decide ((n : Int) ≤ v.frm) = false ∧ decide (v.dst < 0) = false ∧ decide ((n : Int) ≤ v.dst) = false ∧ v.wh.names = true ∧ v.no.names = false ∧ v.fine n = false) ∨
    (decide (v.frm < 0) = false ∧ decide ((n : Int) ≤ v.frm) = false ∧ decide (v.dst < 0) = false ∧ decide ((n : Int) ≤ v.dst) = false ∧ v.wh.names = true ∧ v.no.names = true ∧ v.em.names = false ∧ v.fine n = false) ∨
    (decide (v.frm < 0) = false ∧ decide ((n : Int) ≤ v.frm) = false ∧ decide (v.dst < 0) = false ∧ decide ((n : Int) ≤ v.dst) = false ∧ v.wh.names = true ∧ v.no.names = true ∧ v.em.names = true ∧ v.fine n = true) := by
  unfold MvV.fine
  rcases okIdx_cases n v.frm with ⟨a, b⟩ | ⟨a, b, c⟩ | ⟨a, b, c⟩
  · exact .inl ⟨a, by rw [b]; rfl⟩
  · exact .inr (.inl ⟨a, b, by rw [c]; rfl⟩)
  · rcases okIdx_cases n v.dst with ⟨d, e⟩ | ⟨d, e, f⟩ | ⟨d, e, f⟩
    · exact .inr (.inr (.inl ⟨a, b, d, by rw [c, e]; rfl⟩))
    · exact .inr (.inr (.inr (.inl ⟨a, b, d, e, by rw [c, f]; rfl⟩)))
    · rw [c, f]
      cases v.wh.names <;> cases v.no.names <;> cases v.em.names <;> simp [a, b, d, e]

theorem st_cases (n : Nat) (z : Int) (b : Bool) :
    (((n : Int) == 0) = true ∧ (okIdx n z && b) = false) ∨
    (((n : Int) == 0) = false ∧ decide (z < 0) = true ∧ (okIdx n z && b) = false) ∨
    (((n : Int) == 0) = false ∧ decide (z < 0) = false ∧ decide ((n : Int) ≤ z) = true ∧ (okIdx n z && b) = false) ∨
    (((n : Int) == 0) = false ∧ decide (z < 0) = false ∧ decide ((n : Int) ≤ z) = false ∧ b = false ∧ (okIdx n z && b) = false) ∨
    (((n : Int) == 0) = false ∧ decide (z < 0) = false ∧ decide ((n : Int) ≤ z) = false ∧ b = true ∧ (okIdx n z && b) = true) := by
  rcases Nat.eq_zero_or_pos n with h0 | h0
  · refine .inl ⟨by simp [h0], ?_⟩
    subst h0
    have : okIdx 0 z = false := by
      unfold okIdx
      cases h1 : decide (0 ≤ z) <;> cases h2 : decide (z < ((0 : Nat) : Int)) <;> first | rfl | (simp at h1 h2; omega)
    rw [this]; rfl
  · have h1 : ((n : Int) == 0) = false := by simp; omega
    rcases okIdx_cases n z with ⟨a, b'⟩ | ⟨a, b', c⟩ | ⟨a, b', c⟩
    · exact .inr (.inl ⟨h1, a, by rw [b']; rfl⟩)
    · exact .inr (.inr (.inl ⟨h1, a, b', by rw [c]; rfl⟩))
    · cases b
      · exact .inr (.inr (.inr (.inl ⟨h1, a, b', rfl, by rw [c]; rfl⟩)))
      · exact .inr (.inr (.inr (.inr ⟨h1, a, b', rfl, by rw [c]; rfl⟩)))

theorem ow_cases (l : List McV) (k : Nat) (m : McV) :
    ((m.om == -1) = true ∧ (m.os != 0) = true ∧ ownOk l k m = false) ∨
    ((m.om == -1) = true ∧ (m.os != 0) = false ∧ ownOk l k m = true) ∨
    ((m.om == -1) = false ∧ decide (m.om < 0) = true ∧ ownOk l k m = false) ∨
    ((m.om == -1) = false ∧ decide (m.om < 0) = false ∧ decide ((k : Int) ≤ m.om) = true ∧ ownOk l k m = false) ∨
    ((m.om == -1) = false ∧ (∃ j : Nat, m.om = j ∧ j < k) ∧ decide (m.os < 0) = true ∧ ownOk l k m = false) ∨
    ((m.om == -1) = false ∧ (∃ j : Nat, m.om = j ∧ j < k) ∧ decide (m.os < 0) = false ∧ decide (((stN l m.om : Nat) : Int) ≤ m.os) = true ∧ ownOk l k m = false) ∨
    ((m.om == -1) = false ∧ (∃ j : Nat, m.om = j ∧ j < k) ∧ decide (m.os < 0) = false ∧ decide (((stN l m.om : Nat) : Int) ≤ m.os) = false ∧ ownOk l k m = true) := by
  unfold ownOk
  by_cases h1 : m.om = -1
  · rw [if_pos h1]
    have h1b : (m.om == -1) = true := by simpa using h1
    cases h2 : (m.os == 0)
    · exact .inl ⟨h1b, by simp only [bne, h2]; rfl, rfl⟩
    · exact .inr (.inl ⟨h1b, by simp only [bne, h2]; rfl, rfl⟩)
  · rw [if_neg h1]
    have h1b : (m.om == -1) = false := by simpa using h1
    rcases okIdx_cases k m.om with ⟨a, b⟩ | ⟨a, b, c⟩ | ⟨a, b, c⟩
    · exact .inr (.inr (.inl ⟨h1b, a, by rw [b]; rfl⟩))
    · exact .inr (.inr (.inr (.inl ⟨h1b, a, b, by rw [c]; rfl⟩)))
    · have hj : ∃ j : Nat, m.om = j ∧ j < k := ⟨m.om.toNat, by simp at a b; omega, by simp at a b; omega⟩
      rw [c]
      rcases okIdx_cases (stN l m.om) m.os with ⟨d, e⟩ | ⟨d, e, f⟩ | ⟨d, e, f⟩
      · exact .inr (.inr (.inr (.inr (.inl ⟨h1b, hj, d, by rw [e]; rfl⟩))))
      · exact .inr (.inr (.inr (.inr (.inr (.inl ⟨h1b, hj, d, e, by rw [f]; rfl⟩)))))
      · exact .inr (.inr (.inr (.inr (.inr (.inr ⟨h1b, hj, d, e, by rw [f]; rfl⟩)))))

/-- a fact about calls that holds in all worlds beyond w -/
def Names (f : FuncId) (w : World) (s : SL) (b : Bool) : Prop :=
  ∀ w', Below w.heap.size w w' → Calls Try.prog f #[.slice s.A s.n s.c] w' fun e w'' => e = .returned (.bool b) ∧ Below w'.heap.size w' w''
theorem names_r {w : World} {s : SL} (h : s.ok w) : Names 43 w s s.names := fun w' hb => r_names s w' (h.below hb (Nat.le_refl _))
theorem names_m {w : World} {s : SL} (h : s.ok w) : Names 27 w s s.names := fun w' hb => m_names s w' (h.below hb (Nat.le_refl _))

set_option maxRecDepth 100000 in
set_option maxHeartbeats 4000000 in
theorem r_machine (c : CV) (k : Nat) (m : McV) (w : World) (hc : c.ok w) (hk : c.l[k]? = some m) : Calls Try.prog 30 #[.agg #[.slice c.A c.n c.c], .int .i64 (k : Int)] w fun e w' => e = .returned (.bool (m.fine c.l k)) ∧ Below w.heap.size w w' := by
  obtain ⟨A, n, cc, l⟩ := c
  have hl := hc.1
  simp only at hl hk ⊢
  have hkn : k < n := by rw [← hl]; exact (List.getElem?_eq_some_iff.1 hk).1
  have hn : n ≤ 17592186044416 := hc.2.2.1
  obtain ⟨g, o, m2, hA, hg, hm, hmo, c0, c1, c2, c3, c4⟩ := hc.cell hkn
  simp only at hA hm c0 c1 c2 c3 c4
  rw [hk] at hm
  cases hm
  subst hA
  obtain ⟨om, os, ⟨sA, sn, sc, sl⟩, fst, ⟨mA, mn, mc, ml⟩⟩ := m
  simp only at c0 c1 c2 c3 c4
  have hb1 : Below w.heap.size w (w.alloc (.cells #[.slice (some ⟨g, o, none⟩) n cc] 24)) := (Below.refl _ _).alloc (Nat.le_refl _) _
  obtain ⟨hm1, hm2, hm3, hm4, hm5⟩ := hmo
  have hst := names_r hm3
  have hmn : mn ≤ 17592186044416 := hm5.2.2.1
  replace hm5 := Lib.hid hm5
  replace hc := Lib.hid hc
  have hO0 := Own.two w 24 50 #[.slice (some ⟨g, o, none⟩) n cc] #[.int .i64 om, .int .i64 os, .slice sA sn sc, .int .i64 fst, .slice mA mn mc]
  have hfin : Hid (McV.fine l k ⟨om, os, ⟨sA, sn, sc, sl⟩, fst, ⟨mA, mn, mc, ml⟩⟩ = ((okIdx sn fst && SL.names ⟨sA, sn, sc, sl⟩) && ownOk l k ⟨om, os, ⟨sA, sn, sc, sl⟩, fst, ⟨mA, mn, mc, ml⟩⟩ && ml.all (MvV.fine sn))) := rfl
  obtain ⟨bn, hbn⟩ : ∃ bn, SL.names ⟨sA, sn, sc, sl⟩ = bn := ⟨_, rfl⟩
  simp only [hbn] at hst
  rw [hbn] at hfin
  have hst1 := hst _ hO0.1
  obtain ⟨w2, hw2⟩ : ∃ w2, w2 = (w.alloc (.cells #[.slice (some ⟨g, o, none⟩) n cc] 24)).alloc (.cells #[.int .i64 om, .int .i64 os, .slice sA sn sc, .int .i64 fst, .slice mA mn mc] 50) := ⟨_, rfl⟩
  rw [← hw2] at hO0 hst1
  have e0 : Hid (w2.cell? ⟨w.heap.size + 1, 2, none⟩ = some (.slice sA sn sc)) := hO0.b1.cell 2
  have e1 : Hid (w2.cell? ⟨w.heap.size + 1, 3, none⟩ = some (.int .i64 fst)) := hO0.b1.cell 3
  replace hO0 := Lib.hid hO0
  rcases st_cases sn fst bn with ⟨f1, hv⟩ | ⟨f1, f2, hv⟩ | ⟨f1, f2, f3, hv⟩ | ⟨f1, f2, f3, f4, hv⟩ | ⟨f1, f2, f3, f4, hv⟩
  rotate_left 4
  all_goals
    go_enter Try.func30, Try.ntmps30
    go_upto_region 3 with fail
    rw [← hw2]
    clear hw2
    replace e0 := e0.out
    replace e1 := e1.out
  rotate_left
  iterate 4
    focus
      replace hv : Hid (_ = false) := Lib.hid (show McV.fine l k ⟨om, os, ⟨sA, sn, sc, sl⟩, fst, ⟨mA, mn, mc, ml⟩⟩ = false by rw [hfin.out, hv]; rfl)
      go_wp2_with (go_at_call 43; refine hst1.mono ?_; rintro e w3 ⟨rfl, hb3⟩)
      have hr2 := hO0.out.1
      try (have hr2 := hO0.out.1.trans (hb3.mono hO0.out.1.size))
      go_ret
      exact ⟨by rw [hv.out]; rfl, hr2⟩
  subst f4
  simp only [hv, Bool.true_and] at hfin
  have hback : Hid (∀ j : Nat, om = j → j < k → ∃ A' c', w.cell? ⟨g, o + j * 5 + 2, none⟩ = some (.slice A' (stN l om) c')) := fun j hj hjk => by
    obtain ⟨g', o', m', hA', hg', hm', hmo', d0, d1, d2, d3, d4⟩ := hc.out.cell (j := j) (by simp only; omega)
    simp only at hA' hm'
    cases hA'
    have : stN l om = m'.st.n := by unfold stN; rw [hj, Int.toNat_natCast, hm']
    exact ⟨_, _, by rw [this]; exact d2⟩
  have how := ow_cases l k ⟨om, os, ⟨sA, sn, sc, sl⟩, fst, ⟨mA, mn, mc, ml⟩⟩
  simp only at how
  rcases how with ⟨q1, q2, hv2⟩ | ⟨q1, q2, hv2⟩ | ⟨q1, q2, hv2⟩ | ⟨q1, q2, q3, hv2⟩ | ⟨q1, ⟨j, hj, hjk⟩, q2, hv2⟩ | ⟨q1, ⟨j, hj, hjk⟩, q2, q3, hv2⟩ | ⟨q1, ⟨j, hj, hjk⟩, q2, q3, hv2⟩
  all_goals (try (obtain ⟨A', c', hcj⟩ := hback.out j hj hjk; have hgj := hg; obtain ⟨n', hn'⟩ : ∃ n', n' = stN l om := ⟨_, rfl⟩; rw [← hn'] at hcj; rw [hj] at hn'))
  all_goals (try (rw [hj, ← hn'] at q3))
  all_goals (try clear hn')
  all_goals (try (subst hj))
  all_goals (try (have hjn : j < n := Nat.lt_trans hjk hkn; have hjk2 : decide (k ≤ j) = false := by simp; omega))
  all_goals (try (have hj3 : decide ((j : Int) < 0) = false := by simp))
  all_goals (try (have hj4 : decide ((k : Int) ≤ (j : Int)) = false := by simp; omega))
  all_goals
    simp only [hv2, Bool.true_and, Bool.false_and] at hfin
    clear hback hv2
    go_wp2_with (go_at_call 43; refine hst1.mono ?_; rintro e w3 ⟨rfl, hb3⟩; have hO3 := hO0.out.call hb3; have a0 := hO3.b1.cell 0; have a1 := hO3.b1.cell 1; have b0 := fun o => (hO3.more o).b0.cell 0; have b4 := fun o => (hO3.more o).b1.cell 4; have hbx := fun o => Lib.hid (hO3.more o).1; simp only [List.getElem?_toArray, List.getElem?_cons_zero, List.getElem?_cons_succ] at a0 a1 b0 b4; try (have b2 := fun x => ((hO3.more x).1.cell (p := ⟨g, o + j * 5 + 2, none⟩) hg).trans hcj))
  all_goals (try (go_region; all_goals go_wp2_with fail))
  all_goals clear hc hst hst1 e0 e1 f1 f2 f3 hO0 hbn
  all_goals (try (go_ret; exact ⟨by rw [hfin.out]; rfl, by first | exact (hbx _).out | exact (hbx _).out.drew⟩))
  all_goals
    clear hO3 a0 a1 b0 b4
    try clear b2
    replace hfin : Hid (McV.fine l k _ = ml.all (MvV.fine sn)) := hfin
    go_loopw [77] (fun v77 wr => RA w mn (fun j => ∀ v, ml[j]? = some v → v.fine sn = true) v77 wr) (fun i _ => mn - (intOf i).toNat)
    case atStart => exact ⟨by first | exact (hbx _).out | exact (hbx _).out.drew, 0, by omega, rfl, fun j hj => absurd hj (Nat.not_lt_zero _)⟩
    case round =>
      clear hbx
      obtain ⟨hbr, i, hi, rfl, hP⟩ := hrel
      replace hP := Lib.hid hP
      by_cases hlt : i < mn
      · obtain ⟨g2, o2, v, hA2, hg2, hv3, hvo, d0, d1, d2, d3, d4, d5, d6⟩ := (hm5.out.below hbr (Nat.le_refl _)).cell hlt
        have hvc := mv_cases sn v
        have hx1 := names_r hvo.2.2.1
        have hx2 := names_r hvo.2.2.2.1
        have hx3 := names_r hvo.2.2.2.2
        have hno : Hid (v.fine sn = false → ml.all (MvV.fine sn) = false) := fun h => all_not hv3 h
        have hyes : Hid (v.fine sn = true → ∀ v', ml[i]? = some v' → v'.fine sn = true) := fun h v' hv' => by rw [hv3] at hv'; cases hv'; exact h
        clear hv3 hvo
        obtain ⟨bf, hbf⟩ : ∃ bf, v.fine sn = bf := ⟨_, rfl⟩
        obtain ⟨b1, hb1⟩ : ∃ b1, v.wh.names = b1 := ⟨_, rfl⟩
        obtain ⟨b2, hb2⟩ : ∃ b2, v.no.names = b2 := ⟨_, rfl⟩
        obtain ⟨b3, hb3⟩ : ∃ b3, v.em.names = b3 := ⟨_, rfl⟩
        rw [hbf] at hvc hno hyes
        rw [hb1] at hvc hx1
        rw [hb2] at hvc hx2
        rw [hb3] at hvc hx3
        clear hbf hb1 hb2 hb3
        obtain ⟨frm, dst, ⟨wA, wn, wc, wl⟩, ⟨nA, nn, nc, nl⟩, ⟨eA, en, ec, el⟩, late, keep⟩ := v
        simp only at hA2 d0 d1 d2 d3 d4 d5 d6 hvc
        subst hA2
        have hn1 : Hid (∀ w', Below wr.heap.size wr w' → Calls Try.prog 43 #[.slice wA wn wc] w' fun e w'' => e = .returned (.bool b1) ∧ Below w'.heap.size w' w'') := hx1
        have hn2 : Hid (∀ w', Below wr.heap.size wr w' → Calls Try.prog 43 #[.slice nA nn nc] w' fun e w'' => e = .returned (.bool b2) ∧ Below w'.heap.size w' w'') := hx2
        have hn3 : Hid (∀ w', Below wr.heap.size wr w' → Calls Try.prog 43 #[.slice eA en ec] w' fun e w'' => e = .returned (.bool b3) ∧ Below w'.heap.size w' w'') := hx3
        clear hx1 hx2 hx3
        have hS := Lib.hid ((Below.refl wr.heap.size wr).alloc (Nat.le_refl _) (.cells #[.int .i64 frm, .int .i64 dst, .slice wA wn wc, .slice nA nn nc, .slice eA en ec, .bool late, .bool keep] 52))
        have hB := Lib.hid (Blk.new wr 52 #[.int .i64 frm, .int .i64 dst, .slice wA wn wc, .slice nA nn nc, .slice eA en ec, .bool late, .bool keep])
        have hlt0 : wr.heap.size < (wr.alloc (.cells #[.int .i64 frm, .int .i64 dst, .slice wA wn wc, .slice nA nn nc, .slice eA en ec, .bool late, .bool keep] 52)).heap.size := hB.out.lt
        rcases hvc with ⟨r1, hvf⟩ | ⟨r1, r2, hvf⟩ | ⟨r1, r2, r3, hvf⟩ | ⟨r1, r2, r3, r4, hvf⟩ | ⟨r1, r2, r3, r4, r5, hvf⟩ | ⟨r1, r2, r3, r4, r5, r6, hvf⟩ | ⟨r1, r2, r3, r4, r5, r6, r7, hvf⟩ | ⟨r1, r2, r3, r4, r5, r6, r7, hvf⟩
        all_goals subst hvf
        all_goals (try subst r5)
        all_goals (try subst r6)
        all_goals (try subst r7)
        all_goals (first | (have hvv := Lib.hid (hno.out rfl); clear hno hyes) | (have hvv := Lib.hid (hyes.out rfl); clear hno hyes))
        all_goals
          go_wp2_with (go_at_call 43; first
            | ((with_reducible refine (hn1.out _ hS.out).mono ?_); rintro e w6 ⟨rfl, hb6⟩; have hB := Lib.hid (hB.out.below hb6 hB.out.lt); have hS := Lib.hid (hS.out.trans (hb6.mono hS.out.size)); have p3 := hB.out.cell 3; simp only [List.getElem?_toArray, List.getElem?_cons_zero, List.getElem?_cons_succ] at p3)
            | ((with_reducible refine (hn2.out _ hS.out).mono ?_); rintro e w6 ⟨rfl, hb6⟩; have hB := Lib.hid (hB.out.below hb6 hB.out.lt); have hS := Lib.hid (hS.out.trans (hb6.mono hS.out.size)); have p4 := hB.out.cell 4; simp only [List.getElem?_toArray, List.getElem?_cons_zero, List.getElem?_cons_succ] at p4)
            | ((with_reducible refine (hn3.out _ hS.out).mono ?_); rintro e w6 ⟨rfl, hb6⟩; have hB := Lib.hid (hB.out.below hb6 hB.out.lt); have hS := Lib.hid (hS.out.trans (hb6.mono hS.out.size))))
        all_goals have hS' := Lib.hid (hbr.trans (hS.out.mono hbr.size))
        iterate 7
          focus
            go_ret
            exact ⟨by rw [hfin.out, hvv.out]; rfl, hS'.out⟩
        go_roundw
        case rel => exact RA.next hS'.out hlt (by go_num) hP.out hvv.out
        case measure => simp [intOf]; omega
      · have ha : Hid (ml.all (MvV.fine sn) = true) := all_of (n := mn) hm5.out.1 fun j hj => hP.out j (by omega)
        go_wp2_with fail
        go_ret
        exact ⟨by rw [hfin.out, ha.out]; rfl, hbr⟩

end Go.Proofs.Ytgjmbmlmopomgaa
