/- Configurations and rows of texts, compared where they are equal. -/
import Derived.Test.YtgjmbmlmopomgaaHb
import Derived.Test.YtgjmbmlmopomgaaEc
namespace Go.Proofs.Ytgjmbmlmopomgaa
open Go.RowKit Go.Maps Lib
set_option linter.unusedSimpArgs false
set_option linter.unusedVariables false

set_option maxRecDepth 100000 in
set_option maxHeartbeats 4000000 in
theorem l_cfg (a b : GV) (w : World) (ha : a.ok w) (hb : b.ok w) (he : a.cf = b.cf) :
    Calls Try.prog 11 #[.agg #[.slice a.st.A a.st.n a.st.c, .slice a.fr.A a.fr.n a.fr.c, .slice a.out.A a.out.n a.out.c], .agg #[.slice b.st.A b.st.n b.st.c, .slice b.fr.A b.fr.n b.fr.c, .slice b.out.A b.out.n b.out.c]] w fun e w' => e = .returned (.bool true) ∧ Below w.heap.size w w' := by
  have hO0 := Own.two w 29 29 #[.slice a.st.A a.st.n a.st.c, .slice a.fr.A a.fr.n a.fr.c, .slice a.out.A a.out.n a.out.c] #[.slice b.st.A b.st.n b.st.c, .slice b.fr.A b.fr.n b.fr.c, .slice b.out.A b.out.n b.out.c]
  have hsm := l_same a.out b.out _ (ha.2.2.below hO0.1 (Nat.le_refl _)) (hb.2.2.below hO0.1 (Nat.le_refl _)) (congrArg CF.o he)
  obtain ⟨⟨gA, gn, gc, gl⟩, ⟨fA, fn, fc, fl⟩, ⟨oA, on, oc, ol⟩⟩ := a
  obtain ⟨⟨gA2, gn2, gc2, gl2⟩, ⟨fA2, fn2, fc2, fl2⟩, ⟨oA2, on2, oc2, ol2⟩⟩ := b
  obtain rfl : gl = gl2 := congrArg CF.s he
  obtain rfl : fl = fl2 := congrArg CF.f he
  obtain rfl : gn = gn2 := by have h1 := ha.1.1; have h2 := hb.1.1; simp only at h1 h2; omega
  obtain rfl : fn = fn2 := by have h1 := ha.2.1.1; have h2 := hb.2.1.1; simp only at h1 h2; omega
  have hgn : gn ≤ 17592186044416 := ha.1.2.2.1
  have hfn : fn ≤ 140737488355328 := ha.2.1.2.2.1
  simp only at hsm hO0 ⊢
  clear he
  replace ha := Lib.hid ha
  replace hb := Lib.hid hb
  replace hO0 := Lib.hid hO0
  go_enter Try.func11, Try.ntmps11
  go_wp2_with (go_at_call 23; refine hsm.mono ?_; rintro e w3 ⟨rfl, hb3⟩
               have hO3 := Lib.hid (hO0.out.call hb3)
               have a0 := hO3.out.b0.cell 0
               have a1 := hO3.out.b0.cell 1
               have b0 := hO3.out.b1.cell 0
               have b1 := hO3.out.b1.cell 1
               simp only [List.getElem?_toArray, List.getElem?_cons_zero, List.getElem?_cons_succ] at a0 a1 b0 b1)
  clear hO0 hb3 hsm
  go_loopw [34] (fun v34 wr => RA w3 gn (fun j => True) v34 wr) (fun i _ => gn - (intOf i).toNat)
  case atStart => exact ⟨Below.refl _ _, 0, by omega, rfl, fun j hj => absurd hj (Nat.not_lt_zero _)⟩
  case round =>
    obtain ⟨hbr, i, hi, rfl, hP⟩ := hrel
    clear hP a0 a1 b0 b1
    have hOr := hO3.out.call hbr
    have a0 := hOr.b0.cell 0
    have b0 := hOr.b1.cell 0
    simp only [List.getElem?_toArray, List.getElem?_cons_zero, List.getElem?_cons_succ] at a0 b0
    by_cases hlt : i < gn
    · obtain ⟨g, o, y, hA, hg, hx, hxs, c0⟩ := (ha.out.1.below hOr.1 (Nat.le_refl _)).cell hlt
      obtain ⟨g2, o2, y2, hA2, hg2, hx2, hxs2, c02⟩ := (hb.out.1.below hOr.1 (Nat.le_refl _)).cell hlt
      simp only at hA hx hA2 hx2
      rw [hx] at hx2
      cases hx2
      subst hA
      subst hA2
      clear hx
      have hbd := hbr.drew
      go_wp2_with fail
      go_region
      all_goals go_wp2_with fail
      all_goals go_roundw
      case rel => exact RA.next hbd hlt (by go_num) (fun _ _ => trivial) trivial
      case measure => simp [intOf]; omega
    · have hOw := Lib.hid hOr
      have a1 := hOr.b0.cell 1
      have b1 := hOr.b1.cell 1
      simp only [List.getElem?_toArray, List.getElem?_cons_zero, List.getElem?_cons_succ] at a1 b1
      obtain ⟨w4, hw4⟩ : ∃ w4, w4 = wr := ⟨_, rfl⟩
      subst hw4
      clear hO3 hOr hbr
      go_wp2_with fail
      go_loopw [52] (fun v52 wr => RA w4 fn (fun j => True) v52 wr) (fun i _ => fn - (intOf i).toNat)
      case atStart => exact ⟨Below.refl _ _, 0, by omega, rfl, fun j hj => absurd hj (Nat.not_lt_zero _)⟩
      case round =>
        obtain ⟨hbr, k, hk, rfl, hP⟩ := hrel
        clear hP a0 a1 b0 b1
        have hOr := hOw.out.call hbr
        have a0 := hOr.b0.cell 1
        have b0 := hOr.b1.cell 1
        simp only [List.getElem?_toArray, List.getElem?_cons_zero, List.getElem?_cons_succ] at a0 b0
        by_cases hlt : k < fn
        · obtain ⟨g, o, y, hA, hg, hx, c0⟩ := (ha.out.2.1.below hOr.1 (Nat.le_refl _)).cell hlt
          obtain ⟨g2, o2, y2, hA2, hg2, hx2, c02⟩ := (hb.out.2.1.below hOr.1 (Nat.le_refl _)).cell hlt
          simp only at hA hx hA2 hx2
          rw [hx] at hx2
          cases hx2
          subst hA
          subst hA2
          clear hx
          have hbd := hbr.drew
          have hself : (y != y) = false := by simp
          have hself2 : (y == y) = true := by simp
          go_wp2_with fail
          go_region
          all_goals go_wp2_with fail
          all_goals go_roundw
          case rel => exact RA.next hbd hlt (by go_num) (fun _ _ => trivial) trivial
          case measure => simp [intOf]; omega
        · have hfin := hOr.1
          go_wp2_with fail
          go_ret
          exact ⟨rfl, hfin⟩

set_option maxRecDepth 100000 in
set_option maxHeartbeats 4000000 in
theorem l_sameQ (a b : SL) (w : World) (ha : a.ok w) (hb : b.ok w) (he : a.l = b.l) : Calls Try.prog 23 #[.slice a.A a.n a.c, .slice b.A b.n b.c] w fun e w' => e = .returned (.bool true) ∧ ∃ k, w' = w.drewN k := by
  obtain ⟨A, n, c, l⟩ := a
  obtain ⟨A2, n2, c2, l2⟩ := b
  simp only at he
  subst he
  obtain rfl : n = n2 := by have h1 := ha.1; have h2 := hb.1; simp only at h1 h2; omega
  have hl := ha.1
  have hn : n ≤ 17592186044416 := Nat.le_trans ha.2.2.1 (by decide)
  replace ha := Lib.hid ha
  replace hb := Lib.hid hb
  simp only at hl ⊢
  have hb0 := Below.refl w.heap.size w
  go_enter Try.func23, Try.ntmps23
  go_wp2_with fail
  go_loopw [5] (fun v5 wr => Hid (∃ k, wr = w.drewN k) ∧ RA w n (fun j => True) v5 wr) (fun i _ => n - (intOf i).toNat)
  case atStart => exact ⟨⟨0, rfl⟩, hb0, 0, by omega, rfl, fun j hj => absurd hj (Nat.not_lt_zero _)⟩
  case round =>
    obtain ⟨hkk, hbr, i, hi, rfl, hP⟩ := hrel
    clear hP
    by_cases hlt : i < n
    · obtain ⟨g, o, y, hA, hg, hx, hxs, c0⟩ := (ha.out.below hbr (Nat.le_refl _)).cell hlt
      obtain ⟨g2, o2, y2, hA2, hg2, hx2, hxs2, c02⟩ := (hb.out.below hbr (Nat.le_refl _)).cell hlt
      simp only at hA hx hA2 hx2
      rw [hx] at hx2
      cases hx2
      subst hA
      subst hA2
      clear hx
      have hself : (y.toList != y.toList) = false := by simp
      have hself2 : (y.toList == y.toList) = true := by simp
      have hbd := hbr.drew
      have hkd : Hid (∃ k, wr.drew = w.drewN k) := by obtain ⟨k, hk⟩ := hkk.out; exact ⟨k + 1, by rw [hk]; rfl⟩
      go_wp2_with fail
      go_region
      all_goals go_wp2_with fail
      all_goals go_roundw
      case rel => exact ⟨hkd, RA.next hbd hlt (by go_num) (fun _ _ => trivial) trivial⟩
      case measure => simp [intOf]; omega
    · go_wp2_with fail
      go_ret
      exact ⟨rfl, hkk.out⟩

set_option maxRecDepth 100000 in
set_option maxHeartbeats 4000000 in
theorem l_rows (a b : RL) (w : World) (ha : a.ok w) (hb : b.ok w) (he : a.l.map SL.l = b.l.map SL.l) : Calls Try.prog 22 #[.slice a.A a.n a.c, .slice b.A b.n b.c] w fun e w' => e = .returned (.bool true) ∧ Below w.heap.size w w' := by
  obtain ⟨A, n, c, l⟩ := a
  obtain ⟨A2, n2, c2, l2⟩ := b
  simp only at he
  have hln : l.length = l2.length := by have := congrArg List.length he; simpa using this
  obtain rfl : n = n2 := by have h1 := ha.1; have h2 := hb.1; simp only at h1 h2; omega
  have hl := ha.1
  have hn : n ≤ 17592186044416 := Nat.le_trans ha.2.2.1 (by decide)
  replace ha := Lib.hid ha
  replace hb := Lib.hid hb
  replace he := Lib.hid he
  simp only at hl ⊢
  have hb0 := Below.refl w.heap.size w
  go_enter Try.func22, Try.ntmps22
  go_wp2_with fail
  go_loopw [13] (fun v13 wr => RA w n (fun j => True) v13 wr) (fun i _ => n - (intOf i).toNat)
  case atStart => exact ⟨hb0, 0, by omega, rfl, fun j hj => absurd hj (Nat.not_lt_zero _)⟩
  case round =>
    obtain ⟨hbr, i, hi, rfl, hP⟩ := hrel
    clear hP
    by_cases hlt : i < n
    · obtain ⟨g, o, y, hA, hg, hx, hxs, c0⟩ := (ha.out.below hbr (Nat.le_refl _)).cell hlt
      obtain ⟨g2, o2, y2, hA2, hg2, hx2, hxs2, c02⟩ := (hb.out.below hbr (Nat.le_refl _)).cell hlt
      simp only at hA hx hA2 hx2
      have hyy : y.l = y2.l := by
        have h1 : (l.map SL.l)[i]? = some y.l := by rw [List.getElem?_map, hx]; rfl
        have h2 : (l2.map SL.l)[i]? = some y2.l := by rw [List.getElem?_map, hx2]; rfl
        rw [he.out, h2] at h1
        exact (Option.some.inj h1).symm
      subst hA
      subst hA2
      have hsm := fun k => l_sameQ y y2 (wr.drewN k) (hxs.below (bdN (Below.refl _ _) k) (Nat.le_refl _)) (hxs2.below (bdN (Below.refl _ _) k) (Nat.le_refl _)) hyy
      have hbd := fun k => bdN hbr k
      clear hx hx2 hyy hxs hxs2
      obtain ⟨yA, yn, yc, yl⟩ := y
      obtain ⟨zA, zn, zc, zl⟩ := y2
      simp only at hsm c0 c02
      have hqc := Lib.hid (fun k => Calls.quiet_of (hsm k))
      clear hsm
      replace hbd := Lib.hid hbd
      go_upto_region 7 with fail
      go_quiet (((go_at_call 23; with_reducible exact hqc.out _)))
      go_wp2_with fail
      go_roundw
      case rel => exact RA.next (hbd.out _) hlt (by go_num) (fun _ _ => trivial) trivial
      case measure => simp [intOf]; omega
    · go_wp2_with fail
      go_ret
      exact ⟨rfl, hbr⟩

end Go.Proofs.Ytgjmbmlmopomgaa
