/- The reference's isLarge. -/
import Derived.Test.YtgjmbmlmopomgaaCe
namespace Go.Proofs.Ytgjmbmlmopomgaa
open Go.RowKit
set_option linter.unusedSimpArgs false
set_option linter.unusedVariables false

/-- a loop's counter v is i, and of all before it P holds; below w nothing has changed -/
def RA (w : World) (n : Nat) (P : Nat → Prop) (v : Value) (wr : World) : Prop :=
  Below w.heap.size w wr ∧ ∃ i : Nat, i ≤ n ∧ v = .int .i64 i ∧ ∀ j, j < i → P j
theorem RA.next {w wr : World} {n i : Nat} {P : Nat → Prop} {v : Value} (hb : Below w.heap.size w wr) (hi : i < n) (hv : v = .int .i64 ((i + 1 : Nat) : Int)) (h : ∀ j, j < i → P j) (hP : P i) : RA w n P v wr :=
  ⟨hb, i + 1, hi, hv, fun j hj => by
    by_cases hji : j = i
    · rw [hji]; exact hP
    · exact h j (by omega)⟩
theorem any_of {α : Type} {l : List α} {p : α → Bool} {j : Nat} {x : α} (h : l[j]? = some x) (hp : p x = true) : l.any p = true := List.any_eq_true.2 ⟨x, List.mem_of_getElem? h, hp⟩
theorem any_not {α : Type} {l : List α} {p : α → Bool} {n : Nat} (hn : l.length = n) (h : ∀ j, j < n → ∀ x, l[j]? = some x → p x = false) : l.any p = false := by
  rw [List.any_eq_false]
  intro x hx
  obtain ⟨j, hj, rfl⟩ := List.mem_iff_getElem.1 hx
  simp [h j (by omega) _ (List.getElem?_eq_getElem hj)]

set_option maxRecDepth 100000 in
set_option maxHeartbeats 4000000 in
theorem r_large (c : CV) (w : World) (hc : c.ok w) : Calls Try.prog 29 #[.agg #[.slice c.A c.n c.c]] w fun e w' => e = .returned (.bool c.big) ∧ Below w.heap.size w w' := by
  obtain ⟨A, n, cc, l⟩ := c
  have hl := hc.1
  replace hc := Lib.hid hc
  simp only at hl ⊢
  go_enter Try.func29, Try.ntmps29
  by_cases h1 : 6 < n
  · have hv : Hid (CV.big ⟨A, n, cc, l⟩ = true) := by show _ = _; unfold CV.big; simp [h1]
    have hb : Below w.heap.size w (w.alloc (.cells #[Value.slice A n cc] 24)) := (Below.refl _ _).alloc (Nat.le_refl _) _
    go_wp2_with fail
    go_ret
    exact ⟨by rw [hv.out]; rfl, hb⟩
  · have h1n : n ≤ 6 := by omega
    have hb : Below w.heap.size w (w.alloc (.cells #[Value.slice A n cc] 24)) := (Below.refl _ _).alloc (Nat.le_refl _) _
    go_wp2_with fail
    go_loopw [14] (fun v14 wr => RA w n (fun j => ∀ m, l[j]? = some m → m.big = false) v14 wr) (fun i _ => n - (intOf i).toNat)
    case atStart => exact ⟨hb, 0, by omega, rfl, fun j hj => absurd hj (Nat.not_lt_zero _)⟩
    case round =>
      obtain ⟨hbr, i, hi, rfl, hP⟩ := hrel
      replace hP := Lib.hid hP
      by_cases hlt : i < n
      · obtain ⟨g, o, m, hA, hg, hm, hmo, c0, c1, c2, c3, c4⟩ := (hc.out.below hbr (Nat.le_refl _)).cell hlt
        obtain ⟨om, os, ⟨sA, sn, sc, sl⟩, fst, ⟨mA, mn, mc, ml⟩⟩ := m
        simp only at hA c0 c1 c2 c3 c4
        subst hA
        have hbw : Below w.heap.size w (wr.alloc (.cells #[.int .i64 om, .int .i64 os, .slice sA sn sc, .int .i64 fst, .slice mA mn mc] 50)) := hbr.alloc hbr.size _
        have hbi : Below wr.heap.size wr (wr.alloc (.cells #[.int .i64 om, .int .i64 os, .slice sA sn sc, .int .i64 fst, .slice mA mn mc] 50)) := (Below.refl _ _).alloc (Nat.le_refl _) _
        have hbig : Hid (∀ b, McV.big ⟨om, os, ⟨sA, sn, sc, sl⟩, fst, ⟨mA, mn, mc, ml⟩⟩ = true → CV.big ⟨some ⟨g, o, none⟩, n, cc, l⟩ = b → b = true) := fun b hb hc => by
          rw [← hc]
          unfold CV.big
          simp only [any_of hm hb, Bool.or_true]
        by_cases h24 : 24 < sn
        · have hv : Hid (CV.big ⟨some ⟨g, o, none⟩, n, cc, l⟩ = true) := hbig.out _ (by unfold McV.big; simp [h24]) rfl
          clear hbig hP
          go_wp2_with fail
          go_ret
          exact ⟨by rw [hv.out]; rfl, hbw⟩
        · by_cases h400 : 400 < mn
          · have hv : Hid (CV.big ⟨some ⟨g, o, none⟩, n, cc, l⟩ = true) := hbig.out _ (by unfold McV.big; simp [h400]) rfl
            clear hbig hP
            go_wp2_with fail
            go_ret
            exact ⟨by rw [hv.out]; rfl, hbw⟩
          · have hm' := Lib.hid hm
            have hmo' := Lib.hid hmo.2.2.2.2
            clear hm hmo
            obtain ⟨w1, hw1⟩ : ∃ w1, w1 = wr := ⟨_, rfl⟩
            subst hw1
            go_wp2_with fail
            go_loopw [31] (fun v31 w3 => RA w1 mn (fun j => ∀ v, ml[j]? = some v → v.big = false) v31 w3) (fun i _ => mn - (intOf i).toNat)
            case atStart => exact ⟨hbi, 0, by omega, rfl, fun j hj => absurd hj (Nat.not_lt_zero _)⟩
            case round =>
              obtain ⟨hb3, j, hj, rfl, hQ⟩ := hrel
              replace hQ := Lib.hid hQ
              by_cases hltj : j < mn
              · obtain ⟨g2, o2, v, hA2, hg2, hv, hvo, d0, d1, d2, d3, d4, d5, d6⟩ := (hmo'.out.below hb3 (Nat.le_refl _)).cell hltj
                obtain ⟨frm, dst, ⟨wA, wn, wc, wl⟩, ⟨nA, nn, nc, nl⟩, ⟨eA, en, ec, el⟩, late, keep⟩ := v
                simp only at hA2 d0 d1 d2 d3 d4 d5 d6
                subst hA2
                have hbn : Below w1.heap.size w1 (wr.alloc (.cells #[.int .i64 frm, .int .i64 dst, .slice wA wn wc, .slice nA nn nc, .slice eA en ec, .bool late, .bool keep] 52)) := hb3.alloc hb3.size _
                have hbn2 : Below w.heap.size w (wr.alloc (.cells #[.int .i64 frm, .int .i64 dst, .slice wA wn wc, .slice nA nn nc, .slice eA en ec, .bool late, .bool keep] 52)) := hbr.trans (hbn.mono hbr.size)
                have hbg2 : Hid (MvV.big ⟨frm, dst, ⟨wA, wn, wc, wl⟩, ⟨nA, nn, nc, nl⟩, ⟨eA, en, ec, el⟩, late, keep⟩ = true → CV.big ⟨some ⟨g, o, none⟩, n, cc, l⟩ = true) := fun h => by
                  refine hbig.out _ ?_ rfl
                  unfold McV.big
                  simp only [any_of hv h, Bool.or_true]
                have hv' := Lib.hid hv
                clear hv hvo hbig
                by_cases e1 : 64 < wn
                · have hv : Hid (CV.big ⟨some ⟨g, o, none⟩, n, cc, l⟩ = true) := hbg2.out (by unfold MvV.big; simp [e1])
                  clear hbg2
                  go_wp2_with fail
                  go_ret
                  exact ⟨by rw [hv.out]; rfl, hbn2⟩
                · by_cases e2 : 64 < nn
                  · have hv : Hid (CV.big ⟨some ⟨g, o, none⟩, n, cc, l⟩ = true) := hbg2.out (by unfold MvV.big; simp [e2])
                    clear hbg2
                    go_wp2_with fail
                    go_ret
                    exact ⟨by rw [hv.out]; rfl, hbn2⟩
                  · by_cases e3 : 64 < en
                    · have hv : Hid (CV.big ⟨some ⟨g, o, none⟩, n, cc, l⟩ = true) := hbg2.out (by unfold MvV.big; simp [e3])
                      clear hbg2
                      go_wp2_with fail
                      go_ret
                      exact ⟨by rw [hv.out]; rfl, hbn2⟩
                    · go_wp2_with fail
                      go_roundw
                      case rel => exact RA.next hbn hltj (by go_num) hQ.out (fun v hv2 => by rw [hv'.out] at hv2; cases hv2; unfold MvV.big; simp [e1, e2, e3])
                      case measure => simp [intOf]; omega
              · have hmb : Hid (McV.big ⟨om, os, ⟨sA, sn, sc, sl⟩, fst, ⟨mA, mn, mc, ml⟩⟩ = false) := by
                  have ha : ml.any MvV.big = false := any_not (n := mn) hmo'.out.1 fun k hk => hQ.out k (by omega)
                  show _ = _
                  unfold McV.big
                  simp only [ha, Bool.or_false]
                  simp [h24, h400]
                have hbn : Below w.heap.size w wr := hbr.trans (hb3.mono hbr.size)
                go_wp2_with fail
                go_roundw
                case rel => exact RA.next hbn hlt (by go_num) hP.out (fun m hm2 => by rw [hm'.out] at hm2; cases hm2; exact hmb.out)
                case measure => simp [intOf]; omega
      · have hv : Hid (CV.big ⟨A, n, cc, l⟩ = false) := by
          have ha : l.any McV.big = false := any_not (n := n) hl fun k hk => hP.out k (by omega)
          show _ = _
          unfold CV.big
          simp only [ha, Bool.or_false]
          simp [h1]
        go_wp2_with fail
        go_ret
        exact ⟨by rw [hv.out]; rfl, hbr⟩

end Go.Proofs.Ytgjmbmlmopomgaa
