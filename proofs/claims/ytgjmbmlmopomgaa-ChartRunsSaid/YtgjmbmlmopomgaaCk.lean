/- The reference's Validate. -/
import Derived.Test.YtgjmbmlmopomgaaCj
namespace Go.Proofs.Ytgjmbmlmopomgaa
open Go.RowKit
set_option linter.unusedSimpArgs false
set_option linter.unusedVariables false

def same (l : List ByteArray) (i j : Nat) : Bool := (l.getD i ⟨#[]⟩).toList == (l.getD j ⟨#[]⟩).toList
def dupAt (l : List ByteArray) (i : Nat) : Bool := (List.range i).any fun j => same l i j
def dupS (l : List ByteArray) : Bool := (List.range l.length).any (dupAt l)
def fineAll (l : List McV) : Bool := (List.range l.length).all fun k => match l[k]? with | some m => m.fine l k | none => true
def CV.valid (c : CV) : Int := if c.big = true then 3 else if c.n = 0 then 1 else if fineAll c.l = true then (if c.l.any (fun m => dupS m.st.l) = true then 5 else 0) else 1
theorem fineAll_no {l : List McV} {k : Nat} {m : McV} (h : l[k]? = some m) (hm : m.fine l k = false) : fineAll l = false := by
  unfold fineAll
  rw [List.all_eq_false]
  exact ⟨k, List.mem_range.2 (List.getElem?_eq_some_iff.1 h).1, by simp [h, hm]⟩
theorem fineAll_yes {l : List McV} {n : Nat} (hl : l.length = n) (h : ∀ k, k < n → ∀ m, l[k]? = some m → m.fine l k = true) : fineAll l = true := by
  unfold fineAll
  rw [List.all_eq_true]
  intro k hk
  rw [List.mem_range, hl] at hk
  have e : l[k]? = some l[k] := List.getElem?_eq_getElem (by omega)
  simp only [e]
  exact h k hk _ e
theorem dupAt_yes {l : List ByteArray} {i j : Nat} (hj : j < i) (h : same l i j = true) : dupAt l i = true := List.any_eq_true.2 ⟨j, List.mem_range.2 hj, h⟩
theorem dupAt_no {l : List ByteArray} {i : Nat} (h : ∀ j, j < i → same l i j = false) : dupAt l i = false := by
  unfold dupAt
  rw [List.any_eq_false]
  intro j hj
  simp [h j (List.mem_range.1 hj)]
theorem dupS_yes {l : List ByteArray} {n i : Nat} (hl : l.length = n) (hi : i < n) (h : dupAt l i = true) : dupS l = true := List.any_eq_true.2 ⟨i, List.mem_range.2 (by omega), h⟩
theorem dupS_no {l : List ByteArray} {n : Nat} (hl : l.length = n) (h : ∀ i, i < n → dupAt l i = false) : dupS l = false := by
  unfold dupS
  rw [List.any_eq_false]
  intro i hi
  rw [List.mem_range] at hi
  simp [h i (by omega)]
theorem same_eq {l : List ByteArray} {i j : Nat} {x y : ByteArray} (hx : l[i]? = some x) (hy : l[j]? = some y) : same l i j = (x.toList == y.toList) := by
  unfold same
  rw [List.getD_eq_getElem?_getD, List.getD_eq_getElem?_getD, hx, hy]
  rfl

/-- a loop's counter v is i, and of all before it P holds; the call's own boxes bs stand -/
def RO (w : World) (bs : List (TypeId × Array Value)) (n : Nat) (P : Nat → Prop) (v : Value) (wr : World) : Prop :=
  Own w bs wr ∧ ∃ i : Nat, i ≤ n ∧ v = .int .i64 i ∧ ∀ j, j < i → P j
theorem RO.next {w wr : World} {bs : List (TypeId × Array Value)} {n i : Nat} {P : Nat → Prop} {v : Value} (hb : Own w bs wr) (hi : i < n) (hv : v = .int .i64 ((i + 1 : Nat) : Int)) (h : ∀ j, j < i → P j) (hP : P i) : RO w bs n P v wr :=
  ⟨hb, i + 1, hi, hv, fun j hj => by
    by_cases hji : j = i
    · rw [hji]; exact hP
    · exact h j (by omega)⟩

set_option maxRecDepth 100000 in
set_option maxHeartbeats 4000000 in
theorem r_valid (c : CV) (w : World) (hc : c.ok w) : Calls Try.prog 10 #[.agg #[.slice c.A c.n c.c]] w fun e w' => e = .returned (.int .i64 c.valid) ∧ Below w.heap.size w w' := by
  obtain ⟨A, n, cc, l⟩ := c
  have hl := hc.1
  have hn : n ≤ 17592186044416 := hc.2.2.1
  have hO0 := Own.one w 24 #[.slice A n cc]
  have hlar := r_large ⟨A, n, cc, l⟩ _ (hc.below hO0.1 (Nat.le_refl _))
  have hval : Hid (CV.valid ⟨A, n, cc, l⟩ = if CV.big ⟨A, n, cc, l⟩ = true then 3 else if n = 0 then 1 else if fineAll l = true then (if l.any (fun m => dupS m.st.l) = true then 5 else 0) else 1) := rfl
  replace hc := Lib.hid hc
  replace hO0 := Lib.hid hO0
  simp only at hl ⊢ hlar
  cases hbg : CV.big ⟨A, n, cc, l⟩ with
  | true =>
    rw [hbg] at hlar
    have hv : Hid (CV.valid ⟨A, n, cc, l⟩ = 3) := by show _ = _; rw [hval.out, if_pos hbg]
    clear hval
    go_enter Try.func10, Try.ntmps10
    go_wp2_with (go_at_call 29; refine hlar.mono ?_; rintro e w3 ⟨rfl, hb3⟩)
    have hO3 := hO0.out.call hb3
    go_ret
    exact ⟨by rw [hv.out]; rfl, hO3.1⟩
  | false =>
    rw [hbg] at hlar
    rw [if_neg (by rw [hbg]; simp)] at hval
    by_cases hn0 : n = 0
    · have hv : Hid (CV.valid ⟨A, n, cc, l⟩ = 1) := by show _ = _; rw [hval.out, if_pos hn0]
      have hn0b : ((n : Int) == 0) = true := by simp [hn0]
      clear hval hn0
      go_enter Try.func10, Try.ntmps10
      go_wp2_with (go_at_call 29; refine hlar.mono ?_; rintro e w3 ⟨rfl, hb3⟩; have hO3 := Lib.hid (hO0.out.call hb3); have a0 := hO3.out.b0.cell 0; simp only [List.getElem?_toArray, List.getElem?_cons_zero] at a0)
      go_ret
      exact ⟨by rw [hv.out]; rfl, hO3.out.1⟩
    · rw [if_neg hn0] at hval
      have hn0b : ((n : Int) == 0) = false := by simp; omega
      clear hn0
      go_enter Try.func10, Try.ntmps10
      go_wp2_with (go_at_call 29; refine hlar.mono ?_; rintro e w3 ⟨rfl, hb3⟩; have hO3 := Lib.hid (hO0.out.call hb3); have a0 := hO3.out.b0.cell 0; simp only [List.getElem?_toArray, List.getElem?_cons_zero] at a0)
      clear hlar a0 hO0
      go_loopw [17] (fun v17 wr => RO w [(24, #[.slice A n cc])] n (fun k => ∀ m, l[k]? = some m → m.fine l k = true) v17 wr) (fun i _ => n - (intOf i).toNat)
      case atStart => exact ⟨hO3.out, 0, by omega, rfl, fun j hj => absurd hj (Nat.not_lt_zero _)⟩
      case round =>
        clear hO3
        obtain ⟨hO, i, hi, rfl, hP⟩ := hrel
        replace hO := Lib.hid hO
        replace hP := Lib.hid hP
        have a0 := hO.out.b0.cell 0
        simp only [List.getElem?_toArray, List.getElem?_cons_zero] at a0
        by_cases hlt : i < n
        · have hm : l[i]? = some l[i] := List.getElem?_eq_getElem (by omega)
          have hcall := r_machine ⟨A, n, cc, l⟩ i _ wr (hc.out.below hO.out.1 (Nat.le_refl _)) hm
          simp only at hcall
          obtain ⟨b, hb⟩ : ∃ b, McV.fine l i l[i] = b := ⟨_, rfl⟩
          rw [hb] at hcall
          replace hm := Lib.hid hm
          replace hb := Lib.hid hb
          cases b with
          | false =>
            have hv : Hid (CV.valid ⟨A, n, cc, l⟩ = 1) := by show _ = _; rw [hval.out, if_neg (by rw [fineAll_no hm.out hb.out]; simp)]
            clear hval hb hm
            go_wp2_with (go_at_call 30; refine hcall.mono ?_; rintro e w4 ⟨rfl, hb4⟩)
            have hO4 := hO.out.call hb4
            go_ret
            exact ⟨by rw [hv.out]; rfl, hO4.1⟩
          | true =>
            go_wp2_with (go_at_call 30; refine hcall.mono ?_; rintro e w4 ⟨rfl, hb4⟩)
            have hO4 := hO.out.call hb4
            go_roundw
            case rel => exact RO.next hO4 hlt (by go_num) hP.out (fun m hm2 => by rw [hm.out] at hm2; cases hm2; exact hb.out)
            case measure => simp [intOf]; omega
        · have hfa : fineAll l = true := fineAll_yes hl fun k hk => hP.out k (by omega)
          replace hval : Hid (CV.valid ⟨A, n, cc, l⟩ = if l.any (fun m => dupS m.st.l) = true then 5 else 0) := by show _ = _; rw [hval.out, if_pos hfa]
          have hb0 := Lib.hid hO.out.1
          clear hP hfa
          obtain ⟨w5, hw5⟩ : ∃ w5, w5 = wr := ⟨_, rfl⟩
          subst hw5
          go_wp2_with fail
          clear hO a0
          go_loopw [28] (fun v28 wr => RA w n (fun k => ∀ m, l[k]? = some m → dupS m.st.l = false) v28 wr) (fun i _ => n - (intOf i).toNat)
          case atStart => exact ⟨hb0.out, 0, by omega, rfl, fun j hj => absurd hj (Nat.not_lt_zero _)⟩
          case round =>
            clear hb0 hlt
            obtain ⟨hbr, r, hr, rfl, hP⟩ := hrel
            replace hP := Lib.hid hP
            by_cases hlt : r < n
            · obtain ⟨g, o, m, hA, hg, hm, hmo, c0, c1, c2, c3, c4⟩ := (hc.out.below hbr (Nat.le_refl _)).cell hlt
              have hst := hmo.2.2.1
              clear hmo
              have hdy : Hid (dupS m.st.l = true → CV.valid ⟨A, n, cc, l⟩ = 5) := fun h => by rw [hval.out, if_pos (List.any_eq_true.2 ⟨m, List.mem_of_getElem? hm, h⟩)]
              obtain ⟨om, os, ⟨sA, sn, sc, sl⟩, fst, ⟨mA, mn, mc, ml⟩⟩ := m
              simp only at hA c0 c1 c2 c3 c4 hst hdy
              subst hA
              replace hm := Lib.hid hm
              have hsl := hst.1
              have hsn : sn ≤ 17592186044416 := Nat.le_trans hst.2.2.1 (by decide)
              simp only at hsl
              obtain ⟨w6, hw6⟩ : ∃ w6, w6 = wr := ⟨_, rfl⟩
              subst hw6
              have hO6 := Own.one w6 50 #[.int .i64 om, .int .i64 os, .slice sA sn sc, .int .i64 fst, .slice mA mn mc]
              replace hst := Lib.hid hst
              replace hO6 := Lib.hid hO6
              go_wp2_with fail
              clear c0 c1 c2 c3 c4
              go_loopw [35] (fun v35 wr => RO w6 [(50, #[.int .i64 om, .int .i64 os, .slice sA sn sc, .int .i64 fst, .slice mA mn mc])] sn (fun k => dupAt sl k = false) v35 wr) (fun i _ => sn - (intOf i).toNat)
              case atStart => exact ⟨hO6.out, 0, by omega, rfl, fun j hj => absurd hj (Nat.not_lt_zero _)⟩
              case round =>
                clear hO6
                obtain ⟨hO, a, ha, rfl, hQ⟩ := hrel
                replace hO := Lib.hid hO
                replace hQ := Lib.hid hQ
                by_cases hlta : a < sn
                · go_wp2_with fail
                  go_loopw [7] (fun v7 wr => RO w6 [(50, #[.int .i64 om, .int .i64 os, .slice sA sn sc, .int .i64 fst, .slice mA mn mc])] a (fun k => same sl a k = false) v7 wr) (fun i _ => a - (intOf i).toNat)
                  case atStart => exact ⟨hO.out, 0, by omega, rfl, fun j hj => absurd hj (Nat.not_lt_zero _)⟩
                  case round =>
                    clear hO
                    obtain ⟨hO, b, hb, rfl, hS⟩ := hrel
                    replace hO := Lib.hid hO
                    replace hS := Lib.hid hS
                    by_cases hltb : b < a
                    · have a2 := hO.out.b0.cell 2
                      simp only [List.getElem?_toArray, List.getElem?_cons_zero, List.getElem?_cons_succ] at a2
                      have hst' := hst.out.below hO.out.1 (Nat.le_refl _)
                      obtain ⟨g1, o1, x, hA1, hg1, hx, hxs, e1⟩ := hst'.cell hlta
                      obtain ⟨g2, o2, y, hA2, hg2, hy, hys, e2⟩ := hst'.cell (j := b) (by simp only; omega)
                      simp only at hA1 hA2 hx hy
                      rw [hA1] at hA2
                      cases hA2
                      have hbs : b < sn := by omega
                      have hsa := Lib.hid (same_eq hx hy)
                      clear hx hy hst'
                      subst hA1
                      have hOd := hO.out.drew
                      cases hxy : (x.toList == y.toList) with
                      | true =>
                        have hv : Hid (CV.valid ⟨some ⟨g, o, none⟩, n, cc, l⟩ = 5) := hdy.out (dupS_yes hsl hlta (dupAt_yes hltb (by rw [hsa.out]; exact hxy)))
                        go_wp2_with fail
                        go_region
                        all_goals go_wp2_with fail
                        all_goals go_ret
                        all_goals exact ⟨by rw [hv.out]; rfl, hbr.trans (hOd.1.mono hbr.size)⟩
                      | false =>
                        go_wp2_with fail
                        go_region
                        all_goals go_wp2_with fail
                        all_goals go_roundw
                        all_goals (first
                          | (case rel => exact RO.next hOd hltb (by go_num) hS.out (by rw [hsa.out]; exact hxy))
                          | (case measure => simp [intOf]; omega))
                    · have hda : dupAt sl a = false := dupAt_no fun j hj => hS.out j (by omega)
                      replace hda := Lib.hid hda
                      go_wp2_with fail
                      go_roundw
                      case rel => exact RO.next hO.out hlta (by go_num) hQ.out hda.out
                      case measure => simp [intOf]; omega
                · have hds : dupS sl = false := dupS_no hsl fun j hj => hQ.out j (by omega)
                  replace hds := Lib.hid hds
                  have hbx := hbr.trans (hO.out.1.mono hbr.size)
                  go_wp2_with fail
                  go_roundw
                  case rel => exact RA.next hbx hlt (by go_num) hP.out (fun m hm2 => by rw [hm.out] at hm2; cases hm2; exact hds.out)
                  case measure => simp [intOf]; omega
            · have hna : l.any (fun m => dupS m.st.l) = false := any_not (n := n) hl fun k hk => hP.out k (by omega)
              have hv : Hid (CV.valid ⟨A, n, cc, l⟩ = 0) := by show _ = _; rw [hval.out, if_neg (by rw [hna]; simp)]
              go_wp2_with fail
              go_ret
              exact ⟨by rw [hv.out]; rfl, hbr⟩

end Go.Proofs.Ytgjmbmlmopomgaa
