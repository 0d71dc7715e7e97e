/- The document's example. -/
import Derived.Test.YtgjmbmlmopomgaaEc
import Derived.Test.YtgjmbmlmopomgaaCs
namespace Go.Proofs.Ytgjmbmlmopomgaa
open Go.RowKit Go.Maps Lib
set_option linter.unusedSimpArgs false
set_option linter.unusedVariables false

def bDark : ByteArray := ⟨#[100, 97, 114, 107]⟩
def bLit : ByteArray := ⟨#[108, 105, 116]⟩
def bA : ByteArray := ⟨#[97]⟩
def bUp : ByteArray := ⟨#[117, 112]⟩
def lampM (A1 A2 A3 A4 : Option Addr) : McV := ⟨-1, 0, ⟨A1, 2, 2, [bDark, bLit]⟩, 0, ⟨A2, 1, 1, [⟨0, 1, ⟨A3, 1, 1, [bA]⟩, ⟨none, 0, 0, []⟩, ⟨A4, 1, 1, [bUp]⟩, false, false⟩]⟩⟩
theorem i_0 : In64 0 := by unfold In64; decide
theorem i_1 : In64 1 := by unfold In64; decide
theorem i_m : In64 (-1) := by unfold In64; decide
theorem s_dark : simple bDark = true := by unfold simple resv; rw [ByteArray.toList_eq]; decide
theorem s_lit : simple bLit = true := by unfold simple resv; rw [ByteArray.toList_eq]; decide
theorem s_a : simple bA = true := by unfold simple resv; rw [ByteArray.toList_eq]; decide
theorem s_up : simple bUp = true := by unfold simple resv; rw [ByteArray.toList_eq]; decide
theorem lamp_valid (A A1 A2 A3 A4 : Option Addr) : CV.valid ⟨A, 1, 1, [lampM A1 A2 A3 A4]⟩ = 0 := by
  have hb : CV.big ⟨A, 1, 1, [lampM A1 A2 A3 A4]⟩ = false := by
    simp [CV.big, McV.big, MvV.big, lampM]
  have hf : fineAll [lampM A1 A2 A3 A4] = true := by
    refine fineAll_yes (n := 1) rfl fun k hk m hm => ?_
    obtain rfl : k = 0 := by omega
    simp at hm
    subst hm
    simp [McV.fine, lampM, okIdx, SL.names, ownOk, MvV.fine, s_dark, s_lit, s_a, s_up]
  have hd : ([lampM A1 A2 A3 A4].any fun m => dupS m.st.l) = false := by
    have : same [bDark, bLit] 1 0 = false := by
      rw [same_eq (x := bLit) (y := bDark) rfl rfl, ByteArray.toList_eq, ByteArray.toList_eq]
      decide
    simp [lampM, dupS, dupAt, List.range_succ, this]
  unfold CV.valid
  rw [hb]
  simp [hf, hd]

set_option maxRecDepth 100000 in
set_option maxHeartbeats 4000000 in
theorem m_lamp (w : World) : Calls Try.prog 39 #[] w fun e w' => ∃ A A1 A2 A3 A4, e = .returned (.agg #[.slice A 1 1]) ∧ CV.ok w' ⟨A, 1, 1, [lampM A1 A2 A3 A4]⟩ ∧ Below w.heap.size w w' := by
  obtain ⟨w6, hw6⟩ : ∃ w6, w6 = ((((((w.alloc (.cells #[.slice (some ⟨w.heap.size + 1 + 1 + 1 + 1 + 1, 0, none⟩) 1 1] 24)).alloc (.cells #[.string ⟨#[100, 97, 114, 107]⟩, .string ⟨#[108, 105, 116]⟩] 9)).alloc (.cells #[.string ⟨#[97]⟩] 9)).alloc (.cells #[.string ⟨#[117, 112]⟩] 9)).alloc (.cells #[.int .i64 0, .int .i64 1, .slice (some ⟨w.heap.size + 1 + 1, 0, none⟩) 1 1, .slice none 0 0, .slice (some ⟨w.heap.size + 1 + 1 + 1, 0, none⟩) 1 1, .bool false, .bool false] 52)).alloc (.cells #[.int .i64 (-1), .int .i64 0, .slice (some ⟨w.heap.size + 1, 0, none⟩) 2 2, .int .i64 0, .slice (some ⟨w.heap.size + 1 + 1 + 1 + 1, 0, none⟩) 1 1] 50)) := ⟨_, rfl⟩
  have hO := (Own.five w 24 9 9 9 52 #[.slice (some ⟨w.heap.size + 1 + 1 + 1 + 1 + 1, 0, none⟩) 1 1] #[.string ⟨#[100, 97, 114, 107]⟩, .string ⟨#[108, 105, 116]⟩] #[.string ⟨#[97]⟩] #[.string ⟨#[117, 112]⟩] #[.int .i64 0, .int .i64 1, .slice (some ⟨w.heap.size + 1 + 1, 0, none⟩) 1 1, .slice none 0 0, .slice (some ⟨w.heap.size + 1 + 1 + 1, 0, none⟩) 1 1, .bool false, .bool false]).alloc (by simp) 50 #[.int .i64 (-1), .int .i64 0, .slice (some ⟨w.heap.size + 1, 0, none⟩) 2 2, .int .i64 0, .slice (some ⟨w.heap.size + 1 + 1 + 1 + 1, 0, none⟩) 1 1]
  rw [← hw6] at hO
  have hB1 := hO.blk 1 rfl
  have hB2 := hO.blk 2 rfl
  have hB3 := hO.blk 3 rfl
  have hB4 := hO.blk 4 rfl
  have hB5 := hO.blk 5 rfl
  have c0 := hO.b0.cell 0
  simp only [List.getElem?_toArray, List.getElem?_cons_zero] at c0
  have k1 : SL.ok w6 ⟨some ⟨w.heap.size + 1, 0, none⟩, 2, 2, [bDark, bLit]⟩ := ⟨rfl, Nat.le_refl _, Nat.le_of_ble_eq_true rfl, fun x hx => by
    simp at hx
    rcases hx with rfl | rfl <;> decide, .inr ⟨_, 0, rfl, hB1.lt, fun j x hj => by
    match j, hj with
    | 0, hj => cases hj; exact hB1.cell 0
    | 1, hj => cases hj; exact hB1.cell 1⟩⟩
  have k2 : SL.ok w6 ⟨some ⟨w.heap.size + 2, 0, none⟩, 1, 1, [bA]⟩ := ⟨rfl, Nat.le_refl _, Nat.le_of_ble_eq_true rfl, fun x hx => by
    simp at hx
    subst hx; decide, .inr ⟨_, 0, rfl, hB2.lt, fun j x hj => by
    match j, hj with
    | 0, hj => cases hj; exact hB2.cell 0⟩⟩
  have k3 : SL.ok w6 ⟨some ⟨w.heap.size + 3, 0, none⟩, 1, 1, [bUp]⟩ := ⟨rfl, Nat.le_refl _, Nat.le_of_ble_eq_true rfl, fun x hx => by
    simp at hx
    subst hx; decide, .inr ⟨_, 0, rfl, hB3.lt, fun j x hj => by
    match j, hj with
    | 0, hj => cases hj; exact hB3.cell 0⟩⟩
  have k4 : ML.ok w6 ⟨some ⟨w.heap.size + 4, 0, none⟩, 1, 1, [⟨0, 1, ⟨some ⟨w.heap.size + 2, 0, none⟩, 1, 1, [bA]⟩, ⟨none, 0, 0, []⟩, ⟨some ⟨w.heap.size + 3, 0, none⟩, 1, 1, [bUp]⟩, false, false⟩]⟩ := ⟨rfl, Nat.le_refl _, Nat.le_of_ble_eq_true rfl, fun v hv => by
    simp at hv
    subst hv
    exact ⟨i_0, i_1, k2, SL.none _, k3⟩, .inr ⟨_, 0, rfl, hB4.lt, fun j v hj k x hk => by
    match j, hj with
    | 0, hj =>
      cases hj
      match k, hk with
      | 0, hk => cases hk; exact hB4.cell 0
      | 1, hk => cases hk; exact hB4.cell 1
      | 2, hk => cases hk; exact hB4.cell 2
      | 3, hk => cases hk; exact hB4.cell 3
      | 4, hk => cases hk; exact hB4.cell 4
      | 5, hk => cases hk; exact hB4.cell 5
      | 6, hk => cases hk; exact hB4.cell 6⟩⟩
  have k5 : Hid (CV.ok w6 ⟨some ⟨w.heap.size + 5, 0, none⟩, 1, 1, [lampM (some ⟨w.heap.size + 1, 0, none⟩) (some ⟨w.heap.size + 4, 0, none⟩) (some ⟨w.heap.size + 2, 0, none⟩) (some ⟨w.heap.size + 3, 0, none⟩)]⟩) := ⟨rfl, Nat.le_refl _, Nat.le_of_ble_eq_true rfl, fun m hm => by
    simp at hm
    subst hm
    exact ⟨i_m, i_0, k1, i_0, k4⟩, .inr ⟨_, 0, rfl, hB5.lt, fun j m hj k x hk => by
    match j, hj with
    | 0, hj =>
      cases hj
      match k, hk with
      | 0, hk => cases hk; exact hB5.cell 0
      | 1, hk => cases hk; exact hB5.cell 1
      | 2, hk => cases hk; exact hB5.cell 2
      | 3, hk => cases hk; exact hB5.cell 3
      | 4, hk => cases hk; exact hB5.cell 4⟩⟩
  have hb := Lib.hid hO.1
  clear k1 k2 k3 k4 hB1 hB2 hB3 hB4 hB5 hO
  go_enter Try.func39, Try.ntmps39
  go_wp2_with fail
  rw [← hw6]
  clear hw6
  exact bodyPost_ret (v := .agg #[.slice (some ⟨w.heap.size + 5, 0, none⟩) 1 1]) (by simp [results, Try.results39, go_sem, c0]) rfl ⟨_, _, _, _, _, rfl, k5.out, hb.out⟩

end Go.Proofs.Ytgjmbmlmopomgaa
