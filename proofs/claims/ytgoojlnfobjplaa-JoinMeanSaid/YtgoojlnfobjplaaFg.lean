/- The law's example: join.Mixed at three numbers. -/
import Derived.Test.YtgoojlnfobjplaaZx2
namespace Go.Proofs.Ytgoojlnfobjplaa
open Go.RowKit
set_option linter.unusedSimpArgs false
set_option linter.unusedVariables false

set_option maxRecDepth 100000 in
theorem law11_whole (n : Int) (w : World) :
    Calls Try.prog 30 #[.int .i64 n] w fun e w' => e = .returned (.agg #[.int .i64 n, .int .i64 1]) ∧ Below w.heap.size w w' := by
  have hu := Try.underlying24
  have hO := Own.one w 24 #[.int .i64 n, .int .i64 1]
  have c0 : (w.alloc (.cells #[.int .i64 n, .int .i64 1] 24)).cell? ⟨w.heap.size, 0, none⟩ = some (.int .i64 n) := hO.b0.cell 0
  have c1 : (w.alloc (.cells #[.int .i64 n, .int .i64 1] 24)).cell? ⟨w.heap.size, 1, none⟩ = some (.int .i64 1) := hO.b0.cell 1
  have f0 := hO.b0.frozen 0
  have f1 := hO.b0.frozen 1
  have hO := Lib.hid hO
  go_enter Try.func30, Try.ntmps30
  go_wp2_with fail
  refine bodyPost_ret (v := .agg #[.int .i64 n, .int .i64 1]) (by simp [results, Try.results30, go_sem, c0, c1, f0, f1]) rfl ⟨rfl, hO.out.1⟩

theorem mixed_known : mixed [(3, 1), (-1, 1), (-2, 1)] [(9, 1), (1, 1), (4, 1)] = ((3, 1), true, 0) := by
  kernel_rfl

theorem rats3 {w : World} {g : Nat} {a b c : Int} (h : Blk w g 24 #[.int .i64 a, .int .i64 1, .int .i64 b, .int .i64 1, .int .i64 c, .int .i64 1]) (ha : In64 a) (hb : In64 b) (hc : In64 c) : Rats w (some ⟨g, 0, none⟩) 3 3 [(a, 1), (b, 1), (c, 1)] := by
  refine ⟨rfl, Nat.le_refl _, by show _ ≤ _; decide, ?_, .inr ⟨g, 0, rfl, h.lt, ?_⟩⟩
  · intro x hx
    have h1 : In64 1 := by unfold In64; omega
    simp at hx
    rcases hx with rfl | rfl | rfl
    · exact ⟨ha, h1⟩
    · exact ⟨hb, h1⟩
    · exact ⟨hc, h1⟩
  · intro j x hj
    have hl := (List.getElem?_eq_some_iff.1 hj).1
    simp at hl
    rcases (show j = 0 ∨ j = 1 ∨ j = 2 by omega) with rfl | rfl | rfl
    · obtain rfl : (a, (1 : Int)) = x := by simpa using hj
      exact ⟨h.cell 0, h.cell 1⟩
    · obtain rfl : (b, (1 : Int)) = x := by simpa using hj
      exact ⟨h.cell 2, h.cell 3⟩
    · obtain rfl : (c, (1 : Int)) = x := by simpa using hj
      exact ⟨h.cell 4, h.cell 5⟩

set_option maxRecDepth 100000 in
theorem law11_known (w : World) :
    Calls Try.prog 9 #[] w fun e w' => e = .returned (.bool true) ∧ Below w.heap.size w w' := by
  have hu := Try.underlying24
  go_enter Try.func9, Try.ntmps9
  go_wp2_with fail
  refine (law11_whole _ _).mono ?_
  rintro e w1 ⟨rfl, hb1⟩
  go_wp2_with fail
  refine (law11_whole _ _).mono ?_
  rintro e w2 ⟨rfl, hb2⟩
  go_wp2_with fail
  refine (law11_whole _ _).mono ?_
  rintro e w3 ⟨rfl, hb3⟩
  have hb3 : Below w.heap.size w w3 := (hb1.trans (hb2.mono hb1.size)).trans (hb3.mono (Nat.le_trans hb1.size hb2.size))
  clear hb1 hb2
  go_wp2_with fail
  have hA : Blk (w3.alloc (.cells #[.int .i64 3, .int .i64 1, .int .i64 (-1), .int .i64 1, .int .i64 (-2), .int .i64 1] 24)) w3.heap.size 24 #[.int .i64 3, .int .i64 1, .int .i64 (-1), .int .i64 1, .int .i64 (-2), .int .i64 1] := Blk.new _ _ _
  have hb4 : Below w.heap.size w (w3.alloc (.cells #[.int .i64 3, .int .i64 1, .int .i64 (-1), .int .i64 1, .int .i64 (-2), .int .i64 1] 24)) := hb3.alloc hb3.size _
  refine (law11_whole _ _).mono ?_
  rintro e w4 ⟨rfl, hb⟩
  have hA := hA.below hb hA.lt
  have hb4 := hb4.trans (hb.mono hb4.size)
  clear hb
  go_wp2_with fail
  refine (law11_whole _ _).mono ?_
  rintro e w5 ⟨rfl, hb⟩
  have hA := hA.below hb hA.lt
  have hb4 := hb4.trans (hb.mono hb4.size)
  clear hb
  go_wp2_with fail
  refine (law11_whole _ _).mono ?_
  rintro e w6 ⟨rfl, hb⟩
  have hA := hA.below hb hA.lt
  have hb4 := hb4.trans (hb.mono hb4.size)
  clear hb hb3
  go_wp2_with fail
  have hB : Blk (w6.alloc (.cells #[.int .i64 9, .int .i64 1, .int .i64 1, .int .i64 1, .int .i64 4, .int .i64 1] 24)) w6.heap.size 24 #[.int .i64 9, .int .i64 1, .int .i64 1, .int .i64 1, .int .i64 4, .int .i64 1] := Blk.new _ _ _
  have hA := hA.alloc (.cells #[.int .i64 9, .int .i64 1, .int .i64 1, .int .i64 1, .int .i64 4, .int .i64 1] 24)
  have hb4 := hb4.alloc hb4.size (.cells #[.int .i64 9, .int .i64 1, .int .i64 1, .int .i64 1, .int .i64 4, .int .i64 1] 24)
  have hM := join_Mixed (some ⟨w3.heap.size, 0, none⟩) (some ⟨w6.heap.size, 0, none⟩) 3 3 3 3 [(3, 1), (-1, 1), (-2, 1)] [(9, 1), (1, 1), (4, 1)] _ (rats3 hA (by unfold In64; omega) (by unfold In64; omega) (by unfold In64; omega)) (rats3 hB (by unfold In64; omega) (by unfold In64; omega) (by unfold In64; omega))
  rw [mixed_known] at hM
  refine hM.mono ?_
  clear hM
  rintro e w7 ⟨rfl, hb⟩
  have hb7 := Lib.hid (hb4.trans (hb.mono hb4.size))
  clear hb hb4 hA hB
  have hC : Blk (w7.alloc (.cells #[.int .i64 3, .int .i64 1] 24)) w7.heap.size 24 #[.int .i64 3, .int .i64 1] := Blk.new _ _ _
  have hb8 := Lib.hid (hb7.out.alloc hb7.out.size (.cells #[.int .i64 3, .int .i64 1] 24))
  have hS : (fun w' : World => w'.cell? ⟨w7.heap.size, 0, none⟩ = some (.int .i64 3) ∧ w'.cell? ⟨w7.heap.size, 1, none⟩ = some (.int .i64 1)) (w7.alloc (.cells #[.int .i64 3, .int .i64 1] 24)).drew := ⟨hC.cell 0, hC.cell 1⟩
  go_wp2_with fail
  go_region_held3 (fun w' : World => w'.cell? ⟨w7.heap.size, 0, none⟩ = some (.int .i64 3) ∧ w'.cell? ⟨w7.heap.size, 1, none⟩ = some (.int .i64 1))
    (first | (with_reducible exact hS))
    (first
      | (go_at_call 30; refine (law11_whole 3 _).mono ?_; rintro e w9 ⟨rfl, hb⟩; have hC2 := hC.drew.below hb hC.drew.lt; have hb9 := Lib.hid (hb8.out.drew.trans (hb.mono hb8.out.size)); clear hS hb; have hS : (fun w' : World => w'.cell? ⟨w7.heap.size, 0, none⟩ = some (.int .i64 3) ∧ w'.cell? ⟨w7.heap.size, 1, none⟩ = some (.int .i64 1)) w9 := ⟨hC2.cell 0, hC2.cell 1⟩))
  go_wp2_with fail
  go_ret
  exact ⟨rfl, hb9.out⟩

end Go.Proofs.Ytgoojlnfobjplaa
