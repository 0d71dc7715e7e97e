/- names, areNames; isSet. -/
import Derived.Test.YtgjmbmlmopomgaaCg
import Derived.Shelf.Abstract
namespace Go.Proofs.Ytgjmbmlmopomgaa
open Go.RowKit Lib
set_option linter.unusedSimpArgs false
set_option linter.unusedVariables false

def SL.names (s : SL) : Bool := s.l.all simple
theorem names_any (l : List ByteArray) : (!l.any fun x => !simple x) = l.all simple := by
  induction l with
  | nil => rfl
  | cons x l ih => simp only [List.any_cons, List.all_cons, ← ih, Bool.not_or, Bool.not_not]

set_option maxRecDepth 100000 in
theorem m_names1 (x : ByteArray) (w : World) (hx : x.size ≤ maxLen) : Calls Try.prog 45 #[.string x] w fun e w' => e = .returned (.bool (!simple x)) ∧ Below w.heap.size w w' := by
  have hb := Below.refl w.heap.size w
  go_enter Try.func45, Try.ntmps45
  go_wp2_with (go_at_call 46; refine (m_simple x _ hx).mono ?_; rintro e w3 ⟨rfl, rfl⟩)
  go_ret
  exact ⟨rfl, hb⟩
theorem enters_names1 (args : Array Value) (w : World) : (callFunc 45 args).run Try.prog w = .ok (.enter 45 args) w := enters_of Try.func45 (by kernel_rfl) rfl args w

set_option maxRecDepth 100000 in
theorem m_names (s : SL) (w : World) (hs : s.ok w) : Calls Try.prog 27 #[.slice s.A s.n s.c] w fun e w' => e = .returned (.bool s.names) ∧ Below w.heap.size w w' := by
  have hc := s_contains s (fun x => !simple x) 45 #[] w hs ⟨enters_names1, fun x hx w' hb => m_names1 x w' (hs.2.2.2.1 x hx)⟩
  have hv : Hid (s.names = !s.l.any fun x => !simple x) := (names_any s.l).symm
  clear hs
  go_enter Try.func27, Try.ntmps27
  go_wp2_with (go_at_call 44; refine hc.mono ?_; rintro e w3 ⟨rfl, hb⟩)
  go_ret
  exact ⟨by rw [hv.out]; rfl, hb⟩

theorem all_of {α : Type} {l : List α} {p : α → Bool} {n : Nat} (hn : l.length = n) (h : ∀ j, j < n → ∀ x, l[j]? = some x → p x = true) : l.all p = true := by
  rw [List.all_eq_true]
  intro x hx
  obtain ⟨j, hj, rfl⟩ := List.mem_iff_getElem.1 hx
  exact h j (by omega) _ (List.getElem?_eq_getElem hj)
theorem all_not {α : Type} {l : List α} {p : α → Bool} {j : Nat} {x : α} (h : l[j]? = some x) (hp : p x = false) : l.all p = false := List.all_eq_false.2 ⟨x, List.mem_of_getElem? h, by simp [hp]⟩

set_option maxRecDepth 100000 in
set_option maxHeartbeats 4000000 in
theorem r_names (s : SL) (w : World) (hs : s.ok w) : Calls Try.prog 43 #[.slice s.A s.n s.c] w fun e w' => e = .returned (.bool s.names) ∧ Below w.heap.size w w' := by
  obtain ⟨A, n, cc, l⟩ := s
  have hl := hs.1
  replace hs := Lib.hid hs
  have hn : n ≤ 17592186044416 := Nat.le_trans hs.out.2.2.1 (by decide)
  simp only at hl ⊢
  have hb := Below.refl w.heap.size w
  go_enter Try.func43, Try.ntmps43
  go_wp2_with fail
  go_loopw [7] (fun v7 wr => RA w n (fun j => ∀ x, l[j]? = some x → simple x = true) v7 wr) (fun i _ => n - (intOf i).toNat)
  case atStart => exact ⟨hb, 0, by omega, rfl, fun j hj => absurd hj (Nat.not_lt_zero _)⟩
  case round =>
    obtain ⟨hbr, i, hi, rfl, hP⟩ := hrel
    replace hP := Lib.hid hP
    by_cases hlt : i < n
    · obtain ⟨g, o, x, hA, hg, hx, hxs, c0⟩ := (hs.out.below hbr (Nat.le_refl _)).cell hlt
      simp only at hA hx
      subst hA
      have hcall := r_simple x wr hxs
      have hx' := Lib.hid hx
      clear hx
      cases hpx : simple x with
      | false =>
        rw [hpx] at hcall
        have hv : Hid (SL.names ⟨some ⟨g, o, none⟩, n, cc, l⟩ = false) := all_not hx'.out hpx
        go_wp2_with (go_at_call 58; refine hcall.mono ?_; rintro e w3 ⟨rfl, hb3⟩)
        have hb4 := hbr.trans (hb3.mono hbr.size)
        go_ret
        exact ⟨by rw [hv.out]; rfl, hb4⟩
      | true =>
        rw [hpx] at hcall
        go_wp2_with (go_at_call 58; refine hcall.mono ?_; rintro e w3 ⟨rfl, hb3⟩)
        have hb4 := hbr.trans (hb3.mono hbr.size)
        go_roundw
        case rel => exact RA.next hb4 hlt (by go_num) hP.out (fun y hy => by rw [hx'.out] at hy; cases hy; exact hpx)
        case measure => simp [intOf]; omega
    · have hv : Hid (SL.names ⟨A, n, cc, l⟩ = true) := all_of (n := n) hl fun k hk => hP.out k (by omega)
      go_wp2_with fail
      go_ret
      exact ⟨by rw [hv.out]; rfl, hbr⟩

end Go.Proofs.Ytgjmbmlmopomgaa
