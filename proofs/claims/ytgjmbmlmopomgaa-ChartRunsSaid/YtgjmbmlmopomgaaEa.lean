/- inputs. -/
import Derived.Test.YtgjmbmlmopomgaaCr
namespace Go.Proofs.Ytgjmbmlmopomgaa
open Go.RowKit
set_option linter.unusedSimpArgs false
set_option linter.unusedVariables false

/-- rows of texts -/
structure RL where
  A : Option Addr
  n : Nat
  c : Nat
  l : List SL
def RL.ok (w : World) (s : RL) : Prop :=
  s.l.length = s.n ∧ s.n ≤ s.c ∧ s.n ≤ 17592186044416 ∧ (∀ x ∈ s.l, x.ok w) ∧
  (s.n = 0 ∨ ∃ g o, s.A = some ⟨g, o, none⟩ ∧ g < w.heap.size ∧ ∀ j x, s.l[j]? = some x → w.cell? ⟨g, o + j, none⟩ = some (.slice x.A x.n x.c))
theorem RL.ok.below {w w' : World} {B : Nat} {s : RL} (h : s.ok w) (hb : Below B w w') (hB : w.heap.size ≤ B) : s.ok w' := by
  obtain ⟨h1, h2, h3, h4, h5⟩ := h
  refine ⟨h1, h2, h3, fun x hx => (h4 x hx).below hb hB, ?_⟩
  rcases h5 with h5 | ⟨g, o, e, hg, hc⟩
  · exact .inl h5
  · exact .inr ⟨g, o, e, Nat.lt_of_lt_of_le hg hb.size, fun j z hj => (hb.cell (p := ⟨g, o + j, none⟩) (Nat.lt_of_lt_of_le hg hB)).trans (hc j z hj)⟩
theorem RL.ok.cell {w : World} {s : RL} (h : s.ok w) {j : Nat} (hj : j < s.n) : ∃ g o x, s.A = some ⟨g, o, none⟩ ∧ g < w.heap.size ∧ s.l[j]? = some x ∧ x.ok w ∧ w.cell? ⟨g, o + j, none⟩ = some (.slice x.A x.n x.c) := by
  obtain ⟨h1, h2, h3, h4, h5⟩ := h
  rcases h5 with h5 | ⟨g, o, e, hg, hc⟩
  · omega
  · have e2 : s.l[j]? = some s.l[j] := List.getElem?_eq_getElem (by omega)
    exact ⟨g, o, _, e, hg, e2, h4 _ (List.mem_of_getElem? e2), hc j _ e2⟩
/-- the errors of rows -/
def inErr (l : List SL) : Int := if 64 < l.length then 3 else if l.any (fun s => decide (64 < s.n)) = true then 3 else if l.all SL.names = true then 0 else 1

set_option maxRecDepth 100000 in
set_option maxHeartbeats 4000000 in
theorem m_inputs (r : RL) (w : World) (hr : r.ok w) : Calls Try.prog 35 #[.slice r.A r.n r.c] w fun e w' => e = .returned (.int .i64 (inErr r.l)) ∧ Below w.heap.size w w' := by
  obtain ⟨A, n, c, l⟩ := r
  have hl := hr.1
  have hn := hr.2.2.1
  have hv : Hid (inErr l = if 64 < l.length then 3 else if l.any (fun s => decide (64 < s.n)) = true then 3 else if l.all SL.names = true then 0 else 1) := rfl
  have hb := Below.refl w.heap.size w
  replace hr := Lib.hid hr
  simp only at hl hn ⊢
  rw [hl] at hv
  go_enter Try.func35, Try.ntmps35
  by_cases h1 : 64 < n
  · rw [if_pos h1] at hv
    go_wp2_with fail
    go_ret
    exact ⟨by rw [hv.out]; rfl, hb⟩
  · rw [if_neg h1] at hv
    go_wp2_with fail
    go_loopw [12] (fun v12 wr => RA w n (fun j => ∀ s, l[j]? = some s → decide (64 < s.n) = false) v12 wr) (fun i _ => n - (intOf i).toNat)
    case atStart => exact ⟨hb, 0, by omega, rfl, fun j hj => absurd hj (Nat.not_lt_zero _)⟩
    case round =>
      obtain ⟨hbr, i, hi, rfl, hP⟩ := hrel
      replace hP := Lib.hid hP
      by_cases hlt : i < n
      · obtain ⟨g, o, ⟨sA, sn, sc, sl⟩, hA, hg, hs, hso, c0⟩ := (hr.out.below hbr (Nat.le_refl _)).cell hlt
        simp only at hA hs c0
        subst hA
        replace hs := Lib.hid hs
        by_cases h2 : 64 < sn
        · rw [if_pos (List.any_eq_true.2 ⟨_, List.mem_of_getElem? hs.out, by simpa using h2⟩)] at hv
          clear hso
          go_wp2_with fail
          go_ret
          exact ⟨by rw [hv.out]; rfl, hbr⟩
        · clear hso
          go_wp2_with fail
          go_roundw
          case rel => exact RA.next hbr hlt (by go_num) hP.out (fun s hs2 => by rw [hs.out] at hs2; cases hs2; simpa using h2)
          case measure => simp [intOf]; omega
      · have ha : l.any (fun s => decide (64 < s.n)) = false := any_not (n := n) hl fun k hk => hP.out k (by omega)
        rw [if_neg (by rw [ha]; simp)] at hv
        clear ha hP
        go_wp2_with fail
        obtain ⟨w2, hw2⟩ : ∃ w2, w2 = wr := ⟨_, rfl⟩
        subst hw2
        go_loopw [22] (fun v22 wr => RA w n (fun j => ∀ s, l[j]? = some s → s.names = true) v22 wr) (fun i _ => n - (intOf i).toNat)
        case atStart => exact ⟨hbr, 0, by omega, rfl, fun j hj => absurd hj (Nat.not_lt_zero _)⟩
        case round =>
          clear hbr hlt
          obtain ⟨hbr, i, hi, rfl, hP⟩ := hrel
          replace hP := Lib.hid hP
          by_cases hlt : i < n
          · obtain ⟨g, o, ⟨sA, sn, sc, sl⟩, hA, hg, hs, hso, c0⟩ := (hr.out.below hbr (Nat.le_refl _)).cell hlt
            simp only at hA hs c0
            subst hA
            replace hs := Lib.hid hs
            have hcall := m_names ⟨sA, sn, sc, sl⟩ wr hso
            simp only at hcall
            clear hso
            cases hb2 : SL.names ⟨sA, sn, sc, sl⟩ with
            | false =>
              rw [hb2] at hcall
              rw [if_neg (by rw [all_not (p := SL.names) hs.out hb2]; simp)] at hv
              go_wp2_with (go_at_call 27; refine hcall.mono ?_; rintro e w3 ⟨rfl, hb3⟩)
              have hb4 := hbr.trans (hb3.mono hbr.size)
              go_ret
              exact ⟨by rw [hv.out]; rfl, hb4⟩
            | true =>
              rw [hb2] at hcall
              go_wp2_with (go_at_call 27; refine hcall.mono ?_; rintro e w3 ⟨rfl, hb3⟩)
              have hb4 := hbr.trans (hb3.mono hbr.size)
              go_roundw
              case rel => exact RA.next hb4 hlt (by go_num) hP.out (fun s hs2 => by rw [hs.out] at hs2; cases hs2; exact hb2)
              case measure => simp [intOf]; omega
          · have ha : l.all SL.names = true := all_of (n := n) hl fun k hk => hP.out k (by omega)
            rw [if_pos ha] at hv
            go_wp2_with fail
            go_ret
            exact ⟨by rw [hv.out]; rfl, hbr⟩

end Go.Proofs.Ytgjmbmlmopomgaa
