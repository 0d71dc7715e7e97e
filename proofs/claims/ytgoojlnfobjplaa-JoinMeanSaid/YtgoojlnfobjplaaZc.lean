import Derived.Test.YtgoojlnfobjplaaZo
namespace Go.Proofs.Ytgoojlnfobjplaa
open Go.RowKit
set_option linter.unusedSimpArgs false
set_option linter.unusedVariables false
attribute [local go_sem] qn30 qe30

set_option maxRecDepth 100000 in
set_option maxHeartbeats 1000000 in
theorem num_Neg (z : Zv) (n : Int) (w : World) (h : ZR w z n) (hF : Fit n) :
    Calls Try.prog 44 #[.agg #[.int .i64 z.x, .slice z.A z.l z.c, .bool z.g]] w (PZ w (-n)) := by
  have hu := Try.underlying45
  by_cases hs : z = ⟨n, none, 0, 0, false⟩ ∧ In64 n ∧ n ≠ -9223372036854775808
  · obtain ⟨rfl, h64, hne⟩ := hs
    have hd : (n != -9223372036854775808) = true := by simpa using hne
    have hw : IntKind.i64.wrap (-n) = -n := by rw [IntKind.wrap_i64]; unfold In64 at h64; omega
    have h64' : In64 (-n) := by unfold In64 at *; omega
    clear h h64 hne
    go_enter Try.func44, Try.ntmps44
    go_wp2_with fail
    refine bodyPost_ret (v := .agg #[.int .i64 (-n), .slice none 0 0, .bool false]) (by simp [results, Try.results44, go_sem]) rfl ⟨⟨-n, none, 0, 0, false⟩, rfl, ZR.small rfl h64', ?_⟩
    exact ((Below.refl _ _).alloc (Nat.le_refl _) _).alloc (by simp) _
  · rcases h.cases3 with ⟨rfl, h1⟩ | ⟨g, o, c, xs, rfl, -, -, -, -, -⟩ | ⟨g, o, c, xs, rfl, -, -, -, -, -⟩
    · have hn : n = -9223372036854775808 := by
        rcases Decidable.em (n = -9223372036854775808) with h2 | h2
        · exact h2
        · exact absurd ⟨rfl, h1, h2⟩ hs
      have hd : (n != -9223372036854775808) = false := by simpa using hn
      clear hs h1 hn
      go_enter Try.func44, Try.ntmps44
      go_wp2_with fail
      refine (num_words ⟨_, _, _, _, _⟩ n _ (h.below (B := w.heap.size) (((Below.refl _ _).alloc (Nat.le_refl _) _).alloc (by simp) _) (Nat.le_refl _))).mono ?_
      rintro e w1 ⟨A, l, c, xs, rfl, hU, hT, hv, hb1⟩
      have hl := Lib.hid (hF.len hU hT hv)
      have hv' := Lib.hid hv
      clear hv
      go_wp2_with fail
      refine (num_made A l c _ xs _ hU (by have := hl.out; omega) (-n) ?_).mono ?_
      · have := hv'.out
        show _ = _
        by_cases hn : n < 0 <;> simp [hn] <;> omega
      rintro e w2 ⟨z2, rfl, hz2, hb2⟩
      have hs1 := hb1.size
      have hB : Blk w2 (w.heap.size + 1) 45 #[.int .i64 0, .slice none 0 0, .bool false] := (Blk.below (by have := Blk.new (w.alloc (.cells #[.int .i64 n, .slice none 0 0, .bool false] 45)) 45 #[.int .i64 0, .slice none 0 0, .bool false]; simpa using this) hb1 (by simp)).below hb2 (by simp at hs1; omega)
      obtain ⟨hc0, hc1, hc2, hf0, hf1, hf2⟩ := blk3 hB
      have hB := Lib.hid hB
      have hbW : Below w.heap.size w w2 := (((Below.refl _ _).alloc (Nat.le_refl _) _).alloc (by simp) _).trans ((hb1.mono (by simp; omega)).trans (hb2.mono (by simp at hs1; omega)))
      have hbW := Lib.hid hbW
      have hb1 := Lib.hid hb1
      have hs1 := Lib.hid hs1
      go_wp2_with fail
      refine bodyPost_ret (v := .agg #[.int .i64 z2.x, .slice z2.A z2.l z2.c, .bool z2.g]) (by simp [results, Try.results44, go_sem, hc0, hc1, hc2, hf0, hf1, hf2]) rfl ⟨z2, rfl, hz2.set (NoW.z hB.out) (SetB.set3 _ _ _ _ _ _ _ _), ((hbW.out.setCell (by simp) _).setCell (by simp) _).setCell (by simp) _⟩
    · clear hs
      go_enter Try.func44, Try.ntmps44
      go_wp2_with fail
      refine (num_words ⟨_, _, _, _, _⟩ n _ (h.below (B := w.heap.size) (((Below.refl _ _).alloc (Nat.le_refl _) _).alloc (by simp) _) (Nat.le_refl _))).mono ?_
      rintro e w1 ⟨A, l, c', xs', rfl, hU, hT, hv, hb1⟩
      have hl := Lib.hid (hF.len hU hT hv)
      have hv' := Lib.hid hv
      clear hv
      go_wp2_with fail
      refine (num_made A l c' _ xs' _ hU (by have := hl.out; omega) (-n) ?_).mono ?_
      · have := hv'.out
        show _ = _
        by_cases hn : n < 0 <;> simp [hn] <;> omega
      rintro e w2 ⟨z2, rfl, hz2, hb2⟩
      have hs1 := hb1.size
      have hB : Blk w2 (w.heap.size + 1) 45 #[.int .i64 0, .slice none 0 0, .bool false] := (Blk.below (by have := Blk.new (w.alloc (.cells #[.int .i64 0, .slice (some ⟨g, o, none⟩) xs.length c, .bool false] 45)) 45 #[.int .i64 0, .slice none 0 0, .bool false]; simpa using this) hb1 (by simp)).below hb2 (by simp at hs1; omega)
      obtain ⟨hc0, hc1, hc2, hf0, hf1, hf2⟩ := blk3 hB
      have hB := Lib.hid hB
      have hbW : Below w.heap.size w w2 := (((Below.refl _ _).alloc (Nat.le_refl _) _).alloc (by simp) _).trans ((hb1.mono (by simp; omega)).trans (hb2.mono (by simp at hs1; omega)))
      have hbW := Lib.hid hbW
      have hb1 := Lib.hid hb1
      have hs1 := Lib.hid hs1
      go_wp2_with fail
      refine bodyPost_ret (v := .agg #[.int .i64 z2.x, .slice z2.A z2.l z2.c, .bool z2.g]) (by simp [results, Try.results44, go_sem, hc0, hc1, hc2, hf0, hf1, hf2]) rfl ⟨z2, rfl, hz2.set (NoW.z hB.out) (SetB.set3 _ _ _ _ _ _ _ _), ((hbW.out.setCell (by simp) _).setCell (by simp) _).setCell (by simp) _⟩
    · clear hs
      go_enter Try.func44, Try.ntmps44
      go_wp2_with fail
      refine (num_words ⟨_, _, _, _, _⟩ n _ (h.below (B := w.heap.size) (((Below.refl _ _).alloc (Nat.le_refl _) _).alloc (by simp) _) (Nat.le_refl _))).mono ?_
      rintro e w1 ⟨A, l, c', xs', rfl, hU, hT, hv, hb1⟩
      have hl := Lib.hid (hF.len hU hT hv)
      have hv' := Lib.hid hv
      clear hv
      go_wp2_with fail
      refine (num_made A l c' _ xs' _ hU (by have := hl.out; omega) (-n) ?_).mono ?_
      · have := hv'.out
        show _ = _
        by_cases hn : n < 0 <;> simp [hn] <;> omega
      rintro e w2 ⟨z2, rfl, hz2, hb2⟩
      have hs1 := hb1.size
      have hB : Blk w2 (w.heap.size + 1) 45 #[.int .i64 0, .slice none 0 0, .bool false] := (Blk.below (by have := Blk.new (w.alloc (.cells #[.int .i64 0, .slice (some ⟨g, o, none⟩) xs.length c, .bool true] 45)) 45 #[.int .i64 0, .slice none 0 0, .bool false]; simpa using this) hb1 (by simp)).below hb2 (by simp at hs1; omega)
      obtain ⟨hc0, hc1, hc2, hf0, hf1, hf2⟩ := blk3 hB
      have hB := Lib.hid hB
      have hbW : Below w.heap.size w w2 := (((Below.refl _ _).alloc (Nat.le_refl _) _).alloc (by simp) _).trans ((hb1.mono (by simp; omega)).trans (hb2.mono (by simp at hs1; omega)))
      have hbW := Lib.hid hbW
      have hb1 := Lib.hid hb1
      have hs1 := Lib.hid hs1
      go_wp2_with fail
      refine bodyPost_ret (v := .agg #[.int .i64 z2.x, .slice z2.A z2.l z2.c, .bool z2.g]) (by simp [results, Try.results44, go_sem, hc0, hc1, hc2, hf0, hf1, hf2]) rfl ⟨z2, rfl, hz2.set (NoW.z hB.out) (SetB.set3 _ _ _ _ _ _ _ _), ((hbW.out.setCell (by simp) _).setCell (by simp) _).setCell (by simp) _⟩
end Go.Proofs.Ytgoojlnfobjplaa
