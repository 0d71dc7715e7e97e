/- Lists of texts and numbers compared; in1, has. -/
import Derived.Test.YtgjmbmlmopomgaaEb
namespace Go.Proofs.Ytgjmbmlmopomgaa
open Go.RowKit Go.Maps Lib
set_option linter.unusedSimpArgs false
set_option linter.unusedVariables false

set_option maxRecDepth 100000 in
set_option maxHeartbeats 4000000 in
theorem l_in1 (s : SL) (x : ByteArray) (w : World) (hs : s.ok w) : Calls Try.prog 19 #[.slice s.A s.n s.c, .string x] w fun e w' => e = .returned (.bool (inS s.l x)) ∧ Below w.heap.size w w' := by
  obtain ⟨A, n, cc, l⟩ := s
  have hl := hs.1
  have hn : n ≤ 17592186044416 := Nat.le_trans hs.2.2.1 (by decide)
  replace hs := Lib.hid hs
  simp only at hl ⊢
  have hb := Below.refl w.heap.size w
  go_enter Try.func19, Try.ntmps19
  go_wp2_with fail
  go_loopw [9] (fun v9 wr => RA w n (fun j => ∀ y, l[j]? = some y → (y.toList == x.toList) = false) v9 wr) (fun i _ => n - (intOf i).toNat)
  case atStart => exact ⟨hb, 0, by omega, rfl, fun j hj => absurd hj (Nat.not_lt_zero _)⟩
  case round =>
    obtain ⟨hbr, i, hi, rfl, hP⟩ := hrel
    replace hP := Lib.hid hP
    by_cases hlt : i < n
    · obtain ⟨g, o, y, hA, hg, hx, hxs, c0⟩ := (hs.out.below hbr (Nat.le_refl _)).cell hlt
      simp only at hA hx
      subst hA
      have hx' := Lib.hid hx
      clear hx
      cases hpx : (y.toList == x.toList) with
      | true =>
        have hv : Hid (inS l x = true) := List.any_eq_true.2 ⟨y, List.mem_of_getElem? hx'.out, hpx⟩
        go_wp2_with fail
        go_ret
        exact ⟨by rw [hv.out]; rfl, hbr⟩
      | false =>
        go_wp2_with fail
        go_roundw
        case rel => exact RA.next hbr hlt (by go_num) hP.out (fun z hz => by rw [hx'.out] at hz; cases hz; exact hpx)
        case measure => simp [intOf]; omega
    · have hv : Hid (inS l x = false) := any_not (n := n) hl fun k hk => hP.out k (by omega)
      go_wp2_with fail
      go_ret
      exact ⟨by rw [hv.out]; rfl, hbr⟩

def inI (l : List Int) (x : Int) : Bool := l.any fun y => y == x
set_option maxRecDepth 100000 in
set_option maxHeartbeats 4000000 in
theorem l_has (s : NL) (x : Int) (w : World) (hs : s.ok w) : Calls Try.prog 18 #[.slice s.A s.n s.c, .int .i64 x] w fun e w' => e = .returned (.bool (inI s.l x)) ∧ Below w.heap.size w w' := by
  obtain ⟨A, n, cc, l⟩ := s
  have hl := hs.1
  have hn : n ≤ 17592186044416 := hs.2.2.1
  replace hs := Lib.hid hs
  simp only at hl ⊢
  have hb := Below.refl w.heap.size w
  go_enter Try.func18, Try.ntmps18
  go_wp2_with fail
  go_loopw [9] (fun v9 wr => RA w n (fun j => ∀ y, l[j]? = some y → (y == x) = false) v9 wr) (fun i _ => n - (intOf i).toNat)
  case atStart => exact ⟨hb, 0, by omega, rfl, fun j hj => absurd hj (Nat.not_lt_zero _)⟩
  case round =>
    obtain ⟨hbr, i, hi, rfl, hP⟩ := hrel
    replace hP := Lib.hid hP
    by_cases hlt : i < n
    · obtain ⟨g, o, y, hA, hg, hx, hxs, c0⟩ := (hs.out.below hbr (Nat.le_refl _)).cell hlt
      simp only at hA hx
      subst hA
      have hx' := Lib.hid hx
      clear hx
      cases hpx : (y == x) with
      | true =>
        have hv : Hid (inI l x = true) := List.any_eq_true.2 ⟨y, List.mem_of_getElem? hx'.out, hpx⟩
        go_wp2_with fail
        go_ret
        exact ⟨by rw [hv.out]; rfl, hbr⟩
      | false =>
        go_wp2_with fail
        go_roundw
        case rel => exact RA.next hbr hlt (by go_num) hP.out (fun z hz => by rw [hx'.out] at hz; cases hz; exact hpx)
        case measure => simp [intOf]; omega
    · have hv : Hid (inI l x = false) := any_not (n := n) hl fun k hk => hP.out k (by omega)
      go_wp2_with fail
      go_ret
      exact ⟨by rw [hv.out]; rfl, hbr⟩

set_option maxRecDepth 100000 in
set_option maxHeartbeats 4000000 in
theorem l_hasQ (s : NL) (x : Int) (w : World) (hs : s.ok w) : Calls Try.prog 18 #[.slice s.A s.n s.c, .int .i64 x] w fun e w' => e = .returned (.bool (inI s.l x)) ∧ ∃ k, w' = w.drewN k := by
  obtain ⟨A, n, cc, l⟩ := s
  have hl := hs.1
  have hn : n ≤ 17592186044416 := hs.2.2.1
  replace hs := Lib.hid hs
  simp only at hl ⊢
  have hb := Below.refl w.heap.size w
  go_enter Try.func18, Try.ntmps18
  go_wp2_with fail
  go_loopw [9] (fun v9 wr => wr = w ∧ RA w n (fun j => ∀ y, l[j]? = some y → (y == x) = false) v9 w) (fun i _ => n - (intOf i).toNat)
  case atStart => exact ⟨rfl, hb, 0, by omega, rfl, fun j hj => absurd hj (Nat.not_lt_zero _)⟩
  case round =>
    obtain ⟨rfl, hbr, i, hi, rfl, hP⟩ := hrel
    replace hP := Lib.hid hP
    by_cases hlt : i < n
    · obtain ⟨g, o, y, hA, hg, hx, hxs, c0⟩ := (hs.out.below hbr (Nat.le_refl _)).cell hlt
      simp only at hA hx
      subst hA
      have hx' := Lib.hid hx
      clear hx
      cases hpx : (y == x) with
      | true =>
        have hv : Hid (inI l x = true) := List.any_eq_true.2 ⟨y, List.mem_of_getElem? hx'.out, hpx⟩
        go_wp2_with fail
        go_ret
        exact ⟨by rw [hv.out]; rfl, 0, rfl⟩
      | false =>
        go_wp2_with fail
        go_roundw
        case rel => exact ⟨trivial, RA.next hbr hlt (by go_num) hP.out (fun z hz => by rw [hx'.out] at hz; cases hz; exact hpx)⟩
        case measure => simp [intOf]; omega
    · have hv : Hid (inI l x = false) := any_not (n := n) hl fun k hk => hP.out k (by omega)
      go_wp2_with fail
      go_ret
      exact ⟨by rw [hv.out]; rfl, 0, rfl⟩

set_option maxRecDepth 100000 in
set_option maxHeartbeats 4000000 in
theorem l_same (a b : SL) (w : World) (ha : a.ok w) (hb : b.ok w) (he : a.l = b.l) : Calls Try.prog 23 #[.slice a.A a.n a.c, .slice b.A b.n b.c] w fun e w' => e = .returned (.bool true) ∧ Below w.heap.size w w' := by
  obtain ⟨A, n, c, l⟩ := a
  obtain ⟨A2, n2, c2, l2⟩ := b
  simp only at he
  subst he
  obtain rfl : n = n2 := by have h1 := ha.1; have h2 := hb.1; simp only at h1 h2; omega
  have hl := ha.1
  have hn : n ≤ 17592186044416 := Nat.le_trans ha.2.2.1 (by decide)
  replace ha := Lib.hid ha
  replace hb := Lib.hid hb
  simp only at hl ⊢
  have hb0 := Below.refl w.heap.size w
  go_enter Try.func23, Try.ntmps23
  go_wp2_with fail
  go_loopw [5] (fun v5 wr => RA w n (fun j => True) v5 wr) (fun i _ => n - (intOf i).toNat)
  case atStart => exact ⟨hb0, 0, by omega, rfl, fun j hj => absurd hj (Nat.not_lt_zero _)⟩
  case round =>
    obtain ⟨hbr, i, hi, rfl, hP⟩ := hrel
    clear hP
    by_cases hlt : i < n
    · obtain ⟨g, o, y, hA, hg, hx, hxs, c0⟩ := (ha.out.below hbr (Nat.le_refl _)).cell hlt
      obtain ⟨g2, o2, y2, hA2, hg2, hx2, hxs2, c02⟩ := (hb.out.below hbr (Nat.le_refl _)).cell hlt
      simp only at hA hx hA2 hx2
      rw [hx] at hx2
      cases hx2
      subst hA
      subst hA2
      clear hx
      have hself : (y.toList != y.toList) = false := by simp
      have hself2 : (y.toList == y.toList) = true := by simp
      have hbd := hbr.drew
      go_wp2_with fail
      go_region
      all_goals go_wp2_with fail
      all_goals go_roundw
      case rel => exact RA.next hbd hlt (by go_num) (fun _ _ => trivial) trivial
      case measure => simp [intOf]; omega
    · go_wp2_with fail
      go_ret
      exact ⟨rfl, hbr⟩

end Go.Proofs.Ytgjmbmlmopomgaa
