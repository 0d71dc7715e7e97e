/- What is present: the closures react$1, react$3. -/
import Derived.Test.YtgjmbmlmopomgaaDc
import Derived.Test.YtgjmbmlmopomgaaShelf
namespace Go.Proofs.Ytgjmbmlmopomgaa
open Go.RowKit Go.Maps Lib
set_option linter.unusedSimpArgs false
set_option linter.unusedVariables false

theorem bytes_inj {x y : ByteArray} (h : x.toList = y.toList) : x = y := by
  rw [ByteArray.toList_eq, ByteArray.toList_eq] at h
  have h2 : x.data = y.data := Array.toList_inj.1 h
  cases x with | mk d => cases y with | mk d2 => simp at h2; rw [h2]
theorem inS_iff {l : List ByteArray} {x : ByteArray} : inS l x = true ↔ x ∈ l := by
  unfold inS
  rw [List.any_eq_true]
  constructor
  · rintro ⟨y, hy, h⟩
    rw [beq_iff_eq] at h
    rw [← bytes_inj h]; exact hy
  · intro h; exact ⟨x, h, by simp⟩
theorem inS_lib (l : List ByteArray) (x : ByteArray) : Lib.containsS l x = inS l x := by
  rw [Bool.eq_iff_iff, Lib.containsS_iff, inS_iff]
theorem s_has (s : SL) (x : ByteArray) (w : World) (hs : s.ok w) : Calls Try.prog 28 #[.slice s.A s.n s.c, .string x] w fun e w' => e = .returned (.bool (inS s.l x)) ∧ w' = w := by
  obtain ⟨A, n, c, l⟩ := s
  obtain ⟨h1, h2, h3, h4, h5⟩ := hs
  simp only at h1 h2 h3 h4 h5 ⊢
  by_cases h0 : n = 0
  · subst h0
    rw [List.eq_nil_of_length_eq_zero h1]
    exact Try.slices_Contains_string_empty A c x w
  · obtain ⟨g, o, rfl, hg, hc⟩ := h5.resolve_left h0
    have h := Try.slices_Contains_string g o n c l x w (by omega) (by omega) (fun j hj => by
      have e : l[j]? = some l[j] := List.getElem?_eq_getElem hj
      rw [List.getD_eq_getElem?_getD, e]
      exact hc j _ e)
    rw [List.take_of_length_le (by omega), inS_lib] at h
    exact h

/-- what is present -/
def pres (i : SL) (o : SL) (x : ByteArray) : Bool := inS i.l x || inS o.l x
theorem enters_react1 (args : Array Value) (w : World) : (callFunc 49 args).run Try.prog w = .ok (.enter 49 args) w := enters_of Try.func49 (by kernel_rfl) rfl args w
theorem enters_react3 (args : Array Value) (w : World) : (callFunc 52 args).run Try.prog w = .ok (.enter 52 args) w := enters_of Try.func52 (by kernel_rfl) rfl args w

set_option maxRecDepth 100000 in
theorem p_react1 (i o : SL) (gI gG : Nat) (vS vF : Value) (x : ByteArray) (w : World) (hi : i.ok w) (ho : o.ok w) (bI : Blk w gI 27 #[.slice i.A i.n i.c]) (bG : Blk w gG 29 #[vS, vF, .slice o.A o.n o.c]) :
    Calls Try.prog 49 #[.string x, .pointer (some ⟨gI, 0, none⟩), .pointer (some ⟨gG, 0, none⟩)] w fun e w' => e = .returned (.bool (pres i o x)) ∧ Below w.heap.size w w' := by
  have h1 := s_has i x w hi
  have h2 := s_has o x w ho
  have a0 := bI.cell 0
  have b2 := bG.cell 2
  have hv : Hid (pres i o x = (inS i.l x || inS o.l x)) := rfl
  have hb := Below.refl w.heap.size w
  simp only [List.getElem?_toArray, List.getElem?_cons_zero, List.getElem?_cons_succ] at a0 b2
  clear hi ho bI bG
  obtain ⟨iA, iN, ic, il⟩ := i
  obtain ⟨oA, oN, oc, ol⟩ := o
  simp only at h1 h2 a0 b2 hv ⊢
  cases q1 : inS il x
  all_goals
    rw [q1] at h1
    go_enter Try.func49, Try.ntmps49
    go_wp2_with (first
      | (go_at_call 28; (with_reducible refine h1.mono ?_); rintro e w3 ⟨rfl, rfl⟩)
      | (go_at_call 28; (with_reducible refine h2.mono ?_); rintro e w3 ⟨rfl, rfl⟩))
    go_ret
    exact ⟨by rw [hv.out, q1]; rfl, hb⟩

set_option maxRecDepth 100000 in
theorem p_react3 (i o : SL) (gI gG gP : Nat) (vS vF : Value) (x : ByteArray) (w : World) (hi : i.ok w) (ho : o.ok w) (bI : Blk w gI 27 #[.slice i.A i.n i.c]) (bG : Blk w gG 29 #[vS, vF, .slice o.A o.n o.c])
    (bP : Blk w gP 79 #[.func (.func 49) #[] #[.pointer (some ⟨gI, 0, none⟩), .pointer (some ⟨gG, 0, none⟩)]]) :
    Calls Try.prog 52 #[.string x, .pointer (some ⟨gP, 0, none⟩)] w fun e w' => e = .returned (.bool (!pres i o x)) ∧ Below w.heap.size w w' := by
  have h1 := p_react1 i o gI gG vS vF x w hi ho bI bG
  have p0 := bP.cell 0
  have hent := enters_react1
  simp only [List.getElem?_toArray, List.getElem?_cons_zero, List.getElem?_cons_succ] at p0
  clear hi ho bI bG bP
  generalize pres i o x = b at h1 ⊢
  go_enter Try.func52, Try.ntmps52
  go_wp2_with (go_at_call 49; refine h1.mono ?_; rintro e w3 ⟨rfl, hb⟩)
  go_ret
  exact ⟨rfl, hb⟩

/-- a fact of all worlds beyond w -/
theorem ask1 (i o : SL) (gI gG : Nat) (vS vF : Value) (l : List ByteArray) (w : World) (hi : i.ok w) (ho : o.ok w) (bI : Blk w gI 27 #[.slice i.A i.n i.c]) (bG : Blk w gG 29 #[vS, vF, .slice o.A o.n o.c]) :
    Ask w l (pres i o) 49 #[.pointer (some ⟨gI, 0, none⟩), .pointer (some ⟨gG, 0, none⟩)] :=
  ⟨enters_react1, fun x _ w' hb => p_react1 i o gI gG vS vF x w' (hi.below hb (Nat.le_refl _)) (ho.below hb (Nat.le_refl _)) (bI.call hb) (bG.call hb)⟩
theorem ask3 (i o : SL) (gI gG gP : Nat) (vS vF : Value) (l : List ByteArray) (w : World) (hi : i.ok w) (ho : o.ok w) (bI : Blk w gI 27 #[.slice i.A i.n i.c]) (bG : Blk w gG 29 #[vS, vF, .slice o.A o.n o.c])
    (bP : Blk w gP 79 #[.func (.func 49) #[] #[.pointer (some ⟨gI, 0, none⟩), .pointer (some ⟨gG, 0, none⟩)]]) :
    Ask w l (fun x => !pres i o x) 52 #[.pointer (some ⟨gP, 0, none⟩)] :=
  ⟨enters_react3, fun x _ w' hb => p_react3 i o gI gG gP vS vF x w' (hi.below hb (Nat.le_refl _)) (ho.below hb (Nat.le_refl _)) (bI.call hb) (bG.call hb) (bP.call hb)⟩

end Go.Proofs.Ytgjmbmlmopomgaa
