/- The reference: isIn, isOpen; texts put into rising lists, plain. -/
import Derived.Test.YtgjmbmlmopomgaaHa
import Derived.Test.YtgjmbmlmopomgaaEc
namespace Go.Proofs.Ytgjmbmlmopomgaa
open Go.RowKit Go.Maps Lib
set_option linter.unusedSimpArgs false
set_option linter.unusedVariables false

set_option maxRecDepth 100000 in
set_option maxHeartbeats 4000000 in
theorem r_isIn (s : SL) (x : ByteArray) (w : World) (hs : s.ok w) : Calls Try.prog 65 #[.slice s.A s.n s.c, .string x] w fun e w' => e = .returned (.bool (inS s.l x)) ∧ Below w.heap.size w w' := by
  obtain ⟨A, n, cc, l⟩ := s
  have hl := hs.1
  have hn : n ≤ 17592186044416 := Nat.le_trans hs.2.2.1 (by decide)
  replace hs := Lib.hid hs
  simp only at hl ⊢
  have hb := Below.refl w.heap.size w
  go_enter Try.func65, Try.ntmps65
  go_wp2_with fail
  go_loopw [9] (fun v9 wr => RA w n (fun j => ∀ y, l[j]? = some y → (y.toList == x.toList) = false) v9 wr) (fun i _ => n - (intOf i).toNat)
  case atStart => exact ⟨hb, 0, by omega, rfl, fun j hj => absurd hj (Nat.not_lt_zero _)⟩
  case round =>
    obtain ⟨hbr, i, hi, rfl, hP⟩ := hrel
    replace hP := Lib.hid hP
    by_cases hlt : i < n
    · obtain ⟨g, o, y, hA, hg, hx, hxs, c0⟩ := (hs.out.below hbr (Nat.le_refl _)).cell hlt
      simp only at hA hx
      subst hA
      have hx' := Lib.hid hx
      clear hx
      cases hpx : (y.toList == x.toList) with
      | true =>
        have hv : Hid (inS l x = true) := List.any_eq_true.2 ⟨y, List.mem_of_getElem? hx'.out, hpx⟩
        go_wp2_with fail
        go_ret
        exact ⟨by rw [hv.out]; rfl, hbr⟩
      | false =>
        go_wp2_with fail
        go_roundw
        case rel => exact RA.next hbr hlt (by go_num) hP.out (fun z hz => by rw [hx'.out] at hz; cases hz; exact hpx)
        case measure => simp [intOf]; omega
    · have hv : Hid (inS l x = false) := any_not (n := n) hl fun k hk => hP.out k (by omega)
      go_wp2_with fail
      go_ret
      exact ⟨by rw [hv.out]; rfl, hbr⟩

def opn (th : ByteArray → Bool) (v : MvV) : Bool := v.wh.l.all th && !v.no.l.any th

set_option maxRecDepth 100000 in
set_option maxHeartbeats 4000000 in
theorem r_isOpen (v : MvV) (t : SL) (w : World) (hv : v.ok w) (ht : t.ok w) : Calls Try.prog 55 #[.agg #[.int .i64 v.frm, .int .i64 v.dst, .slice v.wh.A v.wh.n v.wh.c, .slice v.no.A v.no.n v.no.c, .slice v.em.A v.em.n v.em.c, .bool v.late, .bool v.keep], .slice t.A t.n t.c] w fun e w' => e = .returned (.bool (opn (inS t.l) v)) ∧ Below w.heap.size w w' := by
  have hO0 := Own.one w 52 #[.int .i64 v.frm, .int .i64 v.dst, .slice v.wh.A v.wh.n v.wh.c, .slice v.no.A v.no.n v.no.c, .slice v.em.A v.em.n v.em.c, .bool v.late, .bool v.keep]
  have hin := fun x W (h : Below w.heap.size w W) => r_isIn t x W (ht.below h (Nat.le_refl _))
  replace hin := Lib.hid hin
  have hw := hv.2.2.1
  have hno := hv.2.2.2.1
  have hwl := hw.1
  have hnl := hno.1
  have hwn : v.wh.n ≤ 17592186044416 := Nat.le_trans hw.2.2.1 (by decide)
  have hnn : v.no.n ≤ 17592186044416 := Nat.le_trans hno.2.2.1 (by decide)
  have hop : Hid (opn (inS t.l) v = (v.wh.l.all (inS t.l) && !v.no.l.any (inS t.l))) := rfl
  clear hv ht
  obtain ⟨frm, dst, ⟨hA, hn, hcp, wl⟩, ⟨nA, nn, nc, nl⟩, ⟨eA, en, ec, el⟩, late, keep⟩ := v
  obtain ⟨tA, tn, tc, tl⟩ := t
  simp only at hwl hnl hwn hnn hO0 ⊢
  replace hw := Lib.hid hw
  replace hno := Lib.hid hno
  have a2 := hO0.b0.cell 2
  have a3 := hO0.b0.cell 3
  simp only [List.getElem?_toArray, List.getElem?_cons_zero, List.getElem?_cons_succ] at a2 a3
  go_enter Try.func55, Try.ntmps55
  go_wp2_with fail
  obtain ⟨w1, hw1⟩ : ∃ w1, w1 = w.alloc (.cells #[.int .i64 frm, .int .i64 dst, .slice hA hn hcp, .slice nA nn nc, .slice eA en ec, .bool late, .bool keep] 52) := ⟨_, rfl⟩
  rw [← hw1] at hO0 a2 a3 ⊢
  clear hw1
  replace hO0 := Lib.hid hO0
  go_loopw [12] (fun v12 wr => RA w1 hn (fun j => ∀ y, wl[j]? = some y → inS tl y = true) v12 wr) (fun i _ => hn - (intOf i).toNat)
  case atStart => exact ⟨Below.refl _ _, 0, by omega, rfl, fun j hj => absurd hj (Nat.not_lt_zero _)⟩
  case round =>
    obtain ⟨hbr, i, hi, rfl, hP⟩ := hrel
    replace hP := Lib.hid hP
    clear a2 a3
    have hOr := hO0.out.call hbr
    by_cases hlt : i < hn
    · obtain ⟨g, o, y, hAe, hg, hx, hxs, c0⟩ := (hw.out.below hOr.1 (Nat.le_refl _)).cell hlt
      simp only at hAe hx
      subst hAe
      have hcall := hin.out y wr hOr.1
      have hx' := Lib.hid hx
      clear hx
      cases hpx : inS tl y with
      | true =>
        simp only [hpx] at hcall
        go_wp2_with (go_at_call 65; refine hcall.mono ?_; rintro e w3 ⟨rfl, hb3⟩; have hbd := hbr.trans (hb3.mono hbr.size))
        go_roundw
        case rel => exact RA.next hbd hlt (by go_num) hP.out (fun z hz => by rw [hx'.out] at hz; cases hz; exact hpx)
        case measure => simp [intOf]; omega
      | false =>
        simp only [hpx] at hcall
        have hf : Hid (opn (inS tl) ⟨frm, dst, ⟨some ⟨g, o, none⟩, hn, hcp, wl⟩, ⟨nA, nn, nc, nl⟩, ⟨eA, en, ec, el⟩, late, keep⟩ = false) := by
          show _ = _
          rw [hop.out]
          have : wl.all (inS tl) = false := by
            rw [List.all_eq_false]
            exact ⟨y, List.mem_of_getElem? hx'.out, by rw [hpx]; simp⟩
          simp only [this, Bool.false_and]
        clear hop
        go_wp2_with (go_at_call 65; refine hcall.mono ?_; rintro e w3 ⟨rfl, hb3⟩; have hbd := hOr.call hb3)
        go_ret
        exact ⟨by rw [hf.out]; rfl, hbd.1⟩
    · have hw1 : Hid (wl.all (inS tl) = true) := by
        show _ = _
        rw [List.all_eq_true]
        intro y hy
        obtain ⟨k, hk, rfl⟩ := List.mem_iff_getElem.1 hy
        exact hP.out k (by omega) _ (List.getElem?_eq_getElem hk)
      have b2 := hOr.b0.cell 2
      have b3 := hOr.b0.cell 3
      simp only [List.getElem?_toArray, List.getElem?_cons_zero, List.getElem?_cons_succ] at b2 b3
      have hO1 := Lib.hid hOr
      obtain ⟨w2, hw2⟩ : ∃ w2, w2 = wr := ⟨_, rfl⟩
      subst hw2
      clear hO0 hbr hP hOr
      go_wp2_with fail
      go_loopw [24] (fun v24 wr => RA w2 nn (fun j => ∀ y, nl[j]? = some y → inS tl y = false) v24 wr) (fun i _ => nn - (intOf i).toNat)
      case atStart => exact ⟨Below.refl _ _, 0, by omega, rfl, fun j hj => absurd hj (Nat.not_lt_zero _)⟩
      case round =>
        obtain ⟨hbr, k, hk, rfl, hP⟩ := hrel
        replace hP := Lib.hid hP
        clear b2 b3
        have hOr := hO1.out.call hbr
        by_cases hlt2 : k < nn
        · obtain ⟨g, o, y, hAe, hg, hx, hxs, c0⟩ := (hno.out.below hOr.1 (Nat.le_refl _)).cell hlt2
          simp only at hAe hx
          subst hAe
          have hcall := hin.out y wr hOr.1
          have hx' := Lib.hid hx
          clear hx
          cases hpx : inS tl y with
          | false =>
            simp only [hpx] at hcall
            go_wp2_with (go_at_call 65; refine hcall.mono ?_; rintro e w3 ⟨rfl, hb3⟩; have hbd := hbr.trans (hb3.mono hbr.size))
            go_roundw
            case rel => exact RA.next hbd hlt2 (by go_num) hP.out (fun z hz => by rw [hx'.out] at hz; cases hz; exact hpx)
            case measure => simp [intOf]; omega
          | true =>
            simp only [hpx] at hcall
            have hf : Hid (opn (inS tl) ⟨frm, dst, ⟨hA, hn, hcp, wl⟩, ⟨some ⟨g, o, none⟩, nn, nc, nl⟩, ⟨eA, en, ec, el⟩, late, keep⟩ = false) := by
              show _ = _
              rw [hop.out]
              have : nl.any (inS tl) = true := by
                rw [List.any_eq_true]
                exact ⟨y, List.mem_of_getElem? hx'.out, hpx⟩
              simp only [this, Bool.not_true, Bool.and_false]
            clear hop
            go_wp2_with (go_at_call 65; refine hcall.mono ?_; rintro e w3 ⟨rfl, hb3⟩; have hbd := hOr.call hb3)
            go_ret
            exact ⟨by rw [hf.out]; rfl, hbd.1⟩
        · have hf : Hid (opn (inS tl) ⟨frm, dst, ⟨hA, hn, hcp, wl⟩, ⟨nA, nn, nc, nl⟩, ⟨eA, en, ec, el⟩, late, keep⟩ = true) := by
            show _ = _
            rw [hop.out]
            have : nl.any (inS tl) = false := by
              rw [List.any_eq_false]
              intro y hy
              obtain ⟨j, hj, rfl⟩ := List.mem_iff_getElem.1 hy
              rw [hP.out j (by omega) _ (List.getElem?_eq_getElem hj)]
              simp
            simp only [this, hw1.out, Bool.not_false, Bool.and_true]
          clear hop
          have hfin := hOr.1
          go_wp2_with fail
          go_ret
          exact ⟨by rw [hf.out]; rfl, hfin⟩

/-- less, texts -/
def tlt (x s : ByteArray) : Bool := Op.bytesLess x.toList s.toList
/-- a text put into its place -/
def putS (l : List ByteArray) (s : ByteArray) : List ByteArray :=
  let k := (l.takeWhile (tlt · s)).length
  if ((l[k]?).any fun y => y.toList == s.toList) = true then l else l.take k ++ s :: l.drop k
theorem putS_at {l : List ByteArray} {s : ByteArray} {k : Nat} (hk : k ≤ l.length) (h1 : ∀ j, j < k → ∀ x, l[j]? = some x → tlt x s = true) (h2 : ∀ x, l[k]? = some x → tlt x s = false) :
    putS l s = if ((l[k]?).any fun y => y.toList == s.toList) = true then l else l.take k ++ s :: l.drop k := by
  have e : (l.takeWhile (tlt · s)).length = k := by
    have e1 : l = l.take k ++ l.drop k := (List.take_append_drop _ _).symm
    have e2 : (l.drop k).takeWhile (tlt · s) = [] := by
      cases h : l.drop k with
      | nil => rfl
      | cons x r =>
        have hx : l[k]? = some x := by
          have : (l.drop k)[0]? = some x := by rw [h]; rfl
          rw [List.getElem?_drop, Nat.add_zero] at this
          exact this
        rw [List.takeWhile_cons, h2 x hx]
        rfl
    rw [e1, List.takeWhile_append_of_pos, e2, List.append_nil, List.length_take, Nat.min_eq_left hk]
    intro x hx
    obtain ⟨j, hj, rfl⟩ := List.mem_iff_getElem.1 hx
    rw [List.length_take] at hj
    rw [List.getElem_take]
    exact h1 j (by omega) _ (List.getElem?_eq_getElem (by omega))
  unfold putS
  simp only [e]

theorem pw_eq : ∀ {a b : List (List UInt8)}, a.Pairwise (· < ·) → b.Pairwise (· < ·) → (∀ x, x ∈ a ↔ x ∈ b) → a = b
  | [], [], _, _, _ => rfl
  | [], y :: b, _, _, h => absurd ((h y).2 (by simp)) (by simp)
  | x :: a, [], _, _, h => absurd ((h x).1 (by simp)) (by simp)
  | x :: a, y :: b, ha, hb, h => by
    rw [List.pairwise_cons] at ha hb
    have hxy : x = y := by
      have h1 := (h x).1 (by simp)
      have h2 := (h y).2 (by simp)
      rcases List.mem_cons.1 h1 with h1 | h1
      · exact h1
      · rcases List.mem_cons.1 h2 with h2 | h2
        · exact h2.symm
        · exact absurd (List.lt_trans (ha.1 y h2) (hb.1 x h1)) (List.lt_irrefl _)
    subst hxy
    congr 1
    refine pw_eq ha.2 hb.2 fun z => ⟨fun hz => ?_, fun hz => ?_⟩
    · rcases List.mem_cons.1 ((h z).1 (List.mem_cons_of_mem _ hz)) with h1 | h1
      · subst h1; exact absurd (ha.1 z hz) (List.lt_irrefl _)
      · exact h1
    · rcases List.mem_cons.1 ((h z).2 (List.mem_cons_of_mem _ hz)) with h1 | h1
      · subst h1; exact absurd (hb.1 z hz) (List.lt_irrefl _)
      · exact h1

end Go.Proofs.Ytgjmbmlmopomgaa
