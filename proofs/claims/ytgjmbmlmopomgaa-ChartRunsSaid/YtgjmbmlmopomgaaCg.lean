/- slices.ContainsFunc with a function value that answers p; names; areNames. -/
import Derived.Test.YtgjmbmlmopomgaaCf
namespace Go.Proofs.Ytgjmbmlmopomgaa
open Go.RowKit
set_option linter.unusedSimpArgs false
set_option linter.unusedVariables false

/-- a function value that answers p of the texts of l, from the world w on -/
def Ask (w : World) (l : List ByteArray) (p : ByteArray → Bool) (fR : FuncId) (cap : Array Value) : Prop :=
  (∀ (args : Array Value) (w : World), (callFunc fR args).run Try.prog w = .ok (.enter fR args) w) ∧ ∀ x, x ∈ l → ∀ w', Below w.heap.size w w' → Calls Try.prog fR (#[.string x] ++ cap) w' fun e w'' => e = .returned (.bool (p x)) ∧ Below w'.heap.size w' w''

set_option maxRecDepth 100000 in
set_option maxHeartbeats 4000000 in
theorem s_index (s : SL) (p : ByteArray → Bool) (fR : FuncId) (cap : Array Value) (w : World) (hs : s.ok w) (hF : Ask w s.l p fR cap) :
    Calls Try.prog 59 #[.slice s.A s.n s.c, .func (.func fR) #[] cap] w fun e w' => (∃ z : Int, e = .returned (.int .i64 z) ∧ decide (0 ≤ z) = s.l.any p) ∧ Below w.heap.size w w' := by
  obtain ⟨A, n, cc, l⟩ := s
  have hl := hs.1
  replace hs := Lib.hid hs
  have hent := hF.1
  replace hF := Lib.hid hF
  have hn : n ≤ 17592186044416 := Nat.le_trans hs.out.2.2.1 (by decide)
  simp only at hl ⊢
  have hb := Below.refl w.heap.size w
  go_enter Try.func59, Try.ntmps59
  go_wp2_with fail
  go_loopw [8] (fun v8 wr => RA w n (fun j => ∀ x, l[j]? = some x → p x = false) v8 wr) (fun i _ => n - (intOf i).toNat)
  case atStart => exact ⟨hb, 0, by omega, rfl, fun j hj => absurd hj (Nat.not_lt_zero _)⟩
  case round =>
    obtain ⟨hbr, i, hi, rfl, hP⟩ := hrel
    replace hP := Lib.hid hP
    by_cases hlt : i < n
    · obtain ⟨g, o, x, hA, hg, hx, hxs, c0⟩ := (hs.out.below hbr (Nat.le_refl _)).cell hlt
      simp only at hA hx
      subst hA
      have hcall := hF.out.2 x (List.mem_of_getElem? hx) wr hbr
      have hx' := Lib.hid hx
      clear hx
      cases hpx : p x with
      | true =>
        rw [hpx] at hcall
        have hv : Hid (l.any p = true) := any_of hx'.out hpx
        go_wp2_with ((with_reducible refine hcall.mono ?_); rintro e w3 ⟨rfl, hb3⟩)
        have hb4 := hbr.trans (hb3.mono hbr.size)
        go_ret
        exact ⟨⟨_, rfl, by rw [hv.out]; simp⟩, hb4⟩
      | false =>
        rw [hpx] at hcall
        go_wp2_with ((with_reducible refine hcall.mono ?_); rintro e w3 ⟨rfl, hb3⟩)
        have hb4 := hbr.trans (hb3.mono hbr.size)
        go_roundw
        case rel => exact RA.next hb4 hlt (by go_num) hP.out (fun y hy => by rw [hx'.out] at hy; cases hy; exact hpx)
        case measure => simp [intOf]; omega
    · have hv : Hid (l.any p = false) := any_not (n := n) hl fun k hk => hP.out k (by omega)
      go_wp2_with fail
      go_ret
      exact ⟨⟨_, rfl, by rw [hv.out]; simp⟩, hbr⟩

set_option maxRecDepth 100000 in
set_option maxHeartbeats 4000000 in
theorem s_contains (s : SL) (p : ByteArray → Bool) (fR : FuncId) (cap : Array Value) (w : World) (hs : s.ok w) (hF : Ask w s.l p fR cap) :
    Calls Try.prog 44 #[.slice s.A s.n s.c, .func (.func fR) #[] cap] w fun e w' => e = .returned (.bool (s.l.any p)) ∧ Below w.heap.size w w' := by
  have hi := s_index s p fR cap w hs hF
  clear hF hs
  go_enter Try.func44, Try.ntmps44
  go_wp2_with (go_at_call 59; refine hi.mono ?_; rintro e w3 ⟨⟨z, rfl, hz⟩, hb⟩; simp only [hz])
  go_ret
  exact ⟨rfl, hb⟩

end Go.Proofs.Ytgjmbmlmopomgaa
