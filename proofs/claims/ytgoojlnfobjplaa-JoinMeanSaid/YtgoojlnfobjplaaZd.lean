import Derived.Test.YtgoojlnfobjplaaZo
namespace Go.Proofs.Ytgoojlnfobjplaa
open Go.RowKit
set_option linter.unusedSimpArgs false
set_option linter.unusedVariables false
attribute [local go_sem] qn30 qe30

set_option maxRecDepth 100000 in
set_option maxHeartbeats 4000000 in
theorem num_Add1 (z y : Zv) (n m : Int) (w : World) (hz : ZR w z n) (hy : ZR w y m) (hF : Fit n) (hG : Fit m) (h1 : z.A.isNone = false) :
    Calls Try.prog 46 #[.agg #[.int .i64 z.x, .slice z.A z.l z.c, .bool z.g], .agg #[.int .i64 y.x, .slice y.A y.l y.c, .bool y.g]] w (PZ w (n + m)) := by
  have hu := Try.underlying45
  · go_enter Try.func46, Try.ntmps46
    go_upto_if 17 with (fail)
    go_cut [5] (fun v5 wc => Hid (Blk wc w.heap.size 45 #[.int .i64 z.x, .slice z.A z.l z.c, .bool z.g]) ∧ Hid (Blk wc (w.heap.size + 1) 45 #[.int .i64 y.x, .slice y.A y.l y.c, .bool y.g]) ∧ Hid (Blk wc (w.heap.size + 2) 45 #[.int .i64 0, .slice none 0 0, .bool false]) ∧ Hid (Below w.heap.size w wc) ∧ Hid (w.heap.size + 3 ≤ wc.heap.size))
    case first =>
      go_wp2_with fail
      go_meet
      exact ⟨by show Blk _ _ _ _; have := ((Blk.new w 45 #[.int .i64 z.x, .slice z.A z.l z.c, .bool z.g]).alloc (.cells #[.int .i64 y.x, .slice y.A y.l y.c, .bool y.g] 45)).alloc (.cells #[.int .i64 0, .slice none 0 0, .bool false] 45); simpa using this, by show Blk _ _ _ _; have := (Blk.new (w.alloc (.cells #[.int .i64 z.x, .slice z.A z.l z.c, .bool z.g] 45)) 45 #[.int .i64 y.x, .slice y.A y.l y.c, .bool y.g]).alloc (.cells #[.int .i64 0, .slice none 0 0, .bool false] 45); simpa using this, by show Blk _ _ _ _; have := Blk.new ((w.alloc (.cells #[.int .i64 z.x, .slice z.A z.l z.c, .bool z.g] 45)).alloc (.cells #[.int .i64 y.x, .slice y.A y.l y.c, .bool y.g] 45)) 45 #[.int .i64 0, .slice none 0 0, .bool false]; simpa using this, (((Below.refl _ _).alloc (Nat.le_refl _) _).alloc (by simp) _).alloc (by simp; omega) _, by show _ ≤ _; simp⟩
    case rest =>
      obtain ⟨hBz, hBy, hB0, hbW, hsz⟩ := hcut
      obtain ⟨hz0, hz1, hz2, -, -, -⟩ := blk3 hBz.out
      obtain ⟨hy0, hy1, hy2, -, -, -⟩ := blk3 hBy.out
      go_wp2_with fail
      refine (num_words z n _ (hz.below hbW.out (Nat.le_refl _))).mono ?_
      rintro e w1 ⟨A, l, c, xs, rfl, hU, hT, hv, hb1⟩
      have hlA := Lib.hid (hF.len hU hT hv)
      have hv1 := Lib.hid hv
      clear hv
      have hy0 := (hb1.cell (p := ⟨w.heap.size + 1, 0, none⟩) (by have := hsz.out; show w.heap.size + 1 < wc.heap.size; omega)).trans hy0
      have hy1 := (hb1.cell (p := ⟨w.heap.size + 1, 1, none⟩) (by have := hsz.out; show w.heap.size + 1 < wc.heap.size; omega)).trans hy1
      have hy2 := (hb1.cell (p := ⟨w.heap.size + 1, 2, none⟩) (by have := hsz.out; show w.heap.size + 1 < wc.heap.size; omega)).trans hy2
      have hB1 := Lib.hid ((hB0.out).below hb1 (by have := hsz.out; omega))
      have hs1 : Hid (w.heap.size + 3 ≤ w1.heap.size) := Nat.le_trans hsz.out hb1.size
      have hbW1 := Lib.hid ((hbW.out).trans (hb1.mono (by have := hsz.out; omega)))
      have hb1' := Lib.hid hb1
      clear hb1
      go_wp2_with fail
      refine (num_words y m _ (hy.below hbW1.out (Nat.le_refl _))).mono ?_
      rintro e w2 ⟨B, k, d, ys, rfl, hV, hT2, hv, hb2'⟩
      have hlB := Lib.hid (hG.len hV hT2 hv)
      have hv2 := Lib.hid hv
      clear hv
      have hB2 := Lib.hid ((hB1.out).below hb2' (by have := hs1.out; omega))
      have hs2 : Hid (w.heap.size + 3 ≤ w2.heap.size) := Nat.le_trans hs1.out hb2'.size
      have hbW2 := Lib.hid ((hbW1.out).trans (hb2'.mono (by have := hs1.out; omega)))
      have hb2 := Lib.hid hb2'
      clear hb2'
      by_cases hn : n < 0 <;> by_cases hm : m < 0
      · have hq : (decide (n < 0) == decide (m < 0)) = true := by simp [hn, hm]
        go_wp2_with fail
        refine (num_addWords A B l c k d xs ys _ (hU.below hb2.out (Nat.le_refl _)) hV (by have := hlA.out; omega) (by have := hlB.out; omega)).mono ?_
        rintro e w5 ⟨C, l5, c5, zs, rfl, hU5, hv5', hl5, hb5⟩
        have hl5 : l5 ≤ 700000 := by have h1 := hlA.out; have h2 := hlB.out; omega
        have hl5' := Lib.hid hl5
        have hB5 := Lib.hid ((hB2.out).below hb5 (by have := hs2.out; omega))
        have hs5 : Hid (w.heap.size + 3 ≤ w5.heap.size) := Nat.le_trans hs2.out hb5.size
        have hbW5 := Lib.hid ((hbW2.out).trans (hb5.mono (by have := hs2.out; omega)))
        have hb5' := Lib.hid hb5
        have hv5 := Lib.hid hv5'
        clear hb5 hv5'
        go_wp2_with fail
        refine (num_made C l5 c5 _ zs _ hU5 (by omega) (n + m) ?_).mono ?_
        · have h1 := hv1.out
          have h2 := hv2.out
          have h3 := hv5.out
          show _ = _
          simp [hn]
          omega
        rintro e w6 ⟨z6, rfl, hz6, hb6⟩
        have hB6 := (hB5.out).below hb6 (by have := hs5.out; omega)
        obtain ⟨hc0, hc1, hc2, hf0, hf1, hf2⟩ := blk3 hB6
        have hB6 := Lib.hid hB6
        have hbW := Lib.hid ((hbW5.out).trans (hb6.mono (by have := hs5.out; omega)))
        have hb6 := Lib.hid hb6
        go_wp2_with fail
        refine bodyPost_ret (v := .agg #[.int .i64 z6.x, .slice z6.A z6.l z6.c, .bool z6.g]) (by simp [results, Try.results46, go_sem, hc0, hc1, hc2, hf0, hf1, hf2]) rfl ⟨z6, rfl, hz6.set (NoW.z hB6.out) (SetB.set3 _ _ _ _ _ _ _ _), ((hbW.out.setCell (p := ⟨w.heap.size + 2, 0, none⟩) (Nat.le_add_right _ _) _).setCell (p := ⟨w.heap.size + 2, 1, none⟩) (Nat.le_add_right _ _) _).setCell (p := ⟨w.heap.size + 2, 2, none⟩) (Nat.le_add_right _ _) _⟩

      · have hq : (decide (n < 0) == decide (m < 0)) = false := by simp [hn, hm]
        go_wp2_with fail
        refine (num_cmpWords A B l c k d xs ys _ (hU.below hb2.out (Nat.le_refl _)) hV hT hT2 (by have := hlA.out; omega) (by have := hlB.out; omega)).mono ?_
        rintro e w4 ⟨he, hb4⟩
        have hB4 := Lib.hid ((hB2.out).below hb4 (by have := hs2.out; omega))
        have hs4 : Hid (w.heap.size + 3 ≤ w4.heap.size) := Nat.le_trans hs2.out hb4.size
        have hbW4 := Lib.hid ((hbW2.out).trans (hb4.mono (by have := hs2.out; omega)))
        have hU4 := (hU.below hb2.out (Nat.le_refl _)).below hb4 (Nat.le_refl _)
        have hV4 := hV.below hb4 (Nat.le_refl _)
        clear hb4
        rcases Nat.lt_or_ge (val xs) (val ys) with hlt | hge
        · rw [cmpN_lt hlt] at he
          subst he
          have hlen := len_le_of_val hV.2.1 hT (Nat.le_of_lt hlt)
          have hle : Hid (val xs ≤ val ys) := Nat.le_of_lt hlt
          clear hlt
          go_wp2_with fail
          refine (num_subWords B A k d l c ys xs _ hV4 hU4 (by have := hlB.out; omega) (by rw [hU.1, hV.1] at hlen; exact hlen) hle).mono ?_
          rintro e w5 ⟨C, l5, c5, zs, rfl, hU5, hv5', hl5, hb5⟩
          have hl5 : l5 ≤ 700000 := by have h2 := hlB.out; omega
          have hl5' := Lib.hid hl5
          have hB5 := Lib.hid ((hB4.out).below hb5 (by have := hs4.out; omega))
          have hs5 : Hid (w.heap.size + 3 ≤ w5.heap.size) := Nat.le_trans hs4.out hb5.size
          have hbW5 := Lib.hid ((hbW4.out).trans (hb5.mono (by have := hs4.out; omega)))
          have hb5' := Lib.hid hb5
          have hv5 := Lib.hid hv5'
          clear hb5 hv5'
          go_wp2_with fail
          refine (num_made C l5 c5 _ zs _ hU5 (by omega) (n + m) ?_).mono ?_
          · have h1 := hv1.out
            have h2 := hv2.out
            have h3 := hv5.out
            show _ = _
            simp [hm]
            omega
          rintro e w6 ⟨z6, rfl, hz6, hb6⟩
          have hB6 := (hB5.out).below hb6 (by have := hs5.out; omega)
          obtain ⟨hc0, hc1, hc2, hf0, hf1, hf2⟩ := blk3 hB6
          have hB6 := Lib.hid hB6
          have hbW := Lib.hid ((hbW5.out).trans (hb6.mono (by have := hs5.out; omega)))
          have hb6 := Lib.hid hb6
          go_wp2_with fail
          refine bodyPost_ret (v := .agg #[.int .i64 z6.x, .slice z6.A z6.l z6.c, .bool z6.g]) (by simp [results, Try.results46, go_sem, hc0, hc1, hc2, hf0, hf1, hf2]) rfl ⟨z6, rfl, hz6.set (NoW.z hB6.out) (SetB.set3 _ _ _ _ _ _ _ _), ((hbW.out.setCell (p := ⟨w.heap.size + 2, 0, none⟩) (Nat.le_add_right _ _) _).setCell (p := ⟨w.heap.size + 2, 1, none⟩) (Nat.le_add_right _ _) _).setCell (p := ⟨w.heap.size + 2, 2, none⟩) (Nat.le_add_right _ _) _⟩
        · obtain ⟨q, hq0, he'⟩ : ∃ q : Int, 0 ≤ q ∧ e = .returned (.int .i64 q) := by
            rcases Nat.lt_or_ge (val ys) (val xs) with h1 | h1
            · exact ⟨1, by omega, by rw [he, cmpN_gt h1]⟩
            · exact ⟨0, by omega, by rw [he, cmpN_eq (by omega)]⟩
          subst he'
          clear he
          have hlen := len_le_of_val hU.2.1 hT2 hge
          have hle : Hid (val ys ≤ val xs) := hge
          clear hge
          go_wp2_with fail
          refine (num_subWords A B l c k d xs ys _ hU4 hV4 (by have := hlA.out; omega) (by rw [hU.1, hV.1] at hlen; exact hlen) hle).mono ?_
          rintro e w5 ⟨C, l5, c5, zs, rfl, hU5, hv5', hl5, hb5⟩
          have hl5 : l5 ≤ 700000 := by have h2 := hlA.out; omega
          have hl5' := Lib.hid hl5
          have hB5 := Lib.hid ((hB4.out).below hb5 (by have := hs4.out; omega))
          have hs5 : Hid (w.heap.size + 3 ≤ w5.heap.size) := Nat.le_trans hs4.out hb5.size
          have hbW5 := Lib.hid ((hbW4.out).trans (hb5.mono (by have := hs4.out; omega)))
          have hb5' := Lib.hid hb5
          have hv5 := Lib.hid hv5'
          clear hb5 hv5'
          go_wp2_with fail
          refine (num_made C l5 c5 _ zs _ hU5 (by omega) (n + m) ?_).mono ?_
          · have h1 := hv1.out
            have h2 := hv2.out
            have h3 := hv5.out
            show _ = _
            simp [hn]
            omega
          rintro e w6 ⟨z6, rfl, hz6, hb6⟩
          have hB6 := (hB5.out).below hb6 (by have := hs5.out; omega)
          obtain ⟨hc0, hc1, hc2, hf0, hf1, hf2⟩ := blk3 hB6
          have hB6 := Lib.hid hB6
          have hbW := Lib.hid ((hbW5.out).trans (hb6.mono (by have := hs5.out; omega)))
          have hb6 := Lib.hid hb6
          go_wp2_with fail
          refine bodyPost_ret (v := .agg #[.int .i64 z6.x, .slice z6.A z6.l z6.c, .bool z6.g]) (by simp [results, Try.results46, go_sem, hc0, hc1, hc2, hf0, hf1, hf2]) rfl ⟨z6, rfl, hz6.set (NoW.z hB6.out) (SetB.set3 _ _ _ _ _ _ _ _), ((hbW.out.setCell (p := ⟨w.heap.size + 2, 0, none⟩) (Nat.le_add_right _ _) _).setCell (p := ⟨w.heap.size + 2, 1, none⟩) (Nat.le_add_right _ _) _).setCell (p := ⟨w.heap.size + 2, 2, none⟩) (Nat.le_add_right _ _) _⟩

      · have hq : (decide (n < 0) == decide (m < 0)) = false := by simp [hn, hm]
        go_wp2_with fail
        refine (num_cmpWords A B l c k d xs ys _ (hU.below hb2.out (Nat.le_refl _)) hV hT hT2 (by have := hlA.out; omega) (by have := hlB.out; omega)).mono ?_
        rintro e w4 ⟨he, hb4⟩
        have hB4 := Lib.hid ((hB2.out).below hb4 (by have := hs2.out; omega))
        have hs4 : Hid (w.heap.size + 3 ≤ w4.heap.size) := Nat.le_trans hs2.out hb4.size
        have hbW4 := Lib.hid ((hbW2.out).trans (hb4.mono (by have := hs2.out; omega)))
        have hU4 := (hU.below hb2.out (Nat.le_refl _)).below hb4 (Nat.le_refl _)
        have hV4 := hV.below hb4 (Nat.le_refl _)
        clear hb4
        rcases Nat.lt_or_ge (val xs) (val ys) with hlt | hge
        · rw [cmpN_lt hlt] at he
          subst he
          have hlen := len_le_of_val hV.2.1 hT (Nat.le_of_lt hlt)
          have hle : Hid (val xs ≤ val ys) := Nat.le_of_lt hlt
          clear hlt
          go_wp2_with fail
          refine (num_subWords B A k d l c ys xs _ hV4 hU4 (by have := hlB.out; omega) (by rw [hU.1, hV.1] at hlen; exact hlen) hle).mono ?_
          rintro e w5 ⟨C, l5, c5, zs, rfl, hU5, hv5', hl5, hb5⟩
          have hl5 : l5 ≤ 700000 := by have h2 := hlB.out; omega
          have hl5' := Lib.hid hl5
          have hB5 := Lib.hid ((hB4.out).below hb5 (by have := hs4.out; omega))
          have hs5 : Hid (w.heap.size + 3 ≤ w5.heap.size) := Nat.le_trans hs4.out hb5.size
          have hbW5 := Lib.hid ((hbW4.out).trans (hb5.mono (by have := hs4.out; omega)))
          have hb5' := Lib.hid hb5
          have hv5 := Lib.hid hv5'
          clear hb5 hv5'
          go_wp2_with fail
          refine (num_made C l5 c5 _ zs _ hU5 (by omega) (n + m) ?_).mono ?_
          · have h1 := hv1.out
            have h2 := hv2.out
            have h3 := hv5.out
            show _ = _
            simp [hm]
            omega
          rintro e w6 ⟨z6, rfl, hz6, hb6⟩
          have hB6 := (hB5.out).below hb6 (by have := hs5.out; omega)
          obtain ⟨hc0, hc1, hc2, hf0, hf1, hf2⟩ := blk3 hB6
          have hB6 := Lib.hid hB6
          have hbW := Lib.hid ((hbW5.out).trans (hb6.mono (by have := hs5.out; omega)))
          have hb6 := Lib.hid hb6
          go_wp2_with fail
          refine bodyPost_ret (v := .agg #[.int .i64 z6.x, .slice z6.A z6.l z6.c, .bool z6.g]) (by simp [results, Try.results46, go_sem, hc0, hc1, hc2, hf0, hf1, hf2]) rfl ⟨z6, rfl, hz6.set (NoW.z hB6.out) (SetB.set3 _ _ _ _ _ _ _ _), ((hbW.out.setCell (p := ⟨w.heap.size + 2, 0, none⟩) (Nat.le_add_right _ _) _).setCell (p := ⟨w.heap.size + 2, 1, none⟩) (Nat.le_add_right _ _) _).setCell (p := ⟨w.heap.size + 2, 2, none⟩) (Nat.le_add_right _ _) _⟩
        · obtain ⟨q, hq0, he'⟩ : ∃ q : Int, 0 ≤ q ∧ e = .returned (.int .i64 q) := by
            rcases Nat.lt_or_ge (val ys) (val xs) with h1 | h1
            · exact ⟨1, by omega, by rw [he, cmpN_gt h1]⟩
            · exact ⟨0, by omega, by rw [he, cmpN_eq (by omega)]⟩
          subst he'
          clear he
          have hlen := len_le_of_val hU.2.1 hT2 hge
          have hle : Hid (val ys ≤ val xs) := hge
          clear hge
          go_wp2_with fail
          refine (num_subWords A B l c k d xs ys _ hU4 hV4 (by have := hlA.out; omega) (by rw [hU.1, hV.1] at hlen; exact hlen) hle).mono ?_
          rintro e w5 ⟨C, l5, c5, zs, rfl, hU5, hv5', hl5, hb5⟩
          have hl5 : l5 ≤ 700000 := by have h2 := hlA.out; omega
          have hl5' := Lib.hid hl5
          have hB5 := Lib.hid ((hB4.out).below hb5 (by have := hs4.out; omega))
          have hs5 : Hid (w.heap.size + 3 ≤ w5.heap.size) := Nat.le_trans hs4.out hb5.size
          have hbW5 := Lib.hid ((hbW4.out).trans (hb5.mono (by have := hs4.out; omega)))
          have hb5' := Lib.hid hb5
          have hv5 := Lib.hid hv5'
          clear hb5 hv5'
          go_wp2_with fail
          refine (num_made C l5 c5 _ zs _ hU5 (by omega) (n + m) ?_).mono ?_
          · have h1 := hv1.out
            have h2 := hv2.out
            have h3 := hv5.out
            show _ = _
            simp [hn]
            omega
          rintro e w6 ⟨z6, rfl, hz6, hb6⟩
          have hB6 := (hB5.out).below hb6 (by have := hs5.out; omega)
          obtain ⟨hc0, hc1, hc2, hf0, hf1, hf2⟩ := blk3 hB6
          have hB6 := Lib.hid hB6
          have hbW := Lib.hid ((hbW5.out).trans (hb6.mono (by have := hs5.out; omega)))
          have hb6 := Lib.hid hb6
          go_wp2_with fail
          refine bodyPost_ret (v := .agg #[.int .i64 z6.x, .slice z6.A z6.l z6.c, .bool z6.g]) (by simp [results, Try.results46, go_sem, hc0, hc1, hc2, hf0, hf1, hf2]) rfl ⟨z6, rfl, hz6.set (NoW.z hB6.out) (SetB.set3 _ _ _ _ _ _ _ _), ((hbW.out.setCell (p := ⟨w.heap.size + 2, 0, none⟩) (Nat.le_add_right _ _) _).setCell (p := ⟨w.heap.size + 2, 1, none⟩) (Nat.le_add_right _ _) _).setCell (p := ⟨w.heap.size + 2, 2, none⟩) (Nat.le_add_right _ _) _⟩

      · have hq : (decide (n < 0) == decide (m < 0)) = true := by simp [hn, hm]
        go_wp2_with fail
        refine (num_addWords A B l c k d xs ys _ (hU.below hb2.out (Nat.le_refl _)) hV (by have := hlA.out; omega) (by have := hlB.out; omega)).mono ?_
        rintro e w5 ⟨C, l5, c5, zs, rfl, hU5, hv5', hl5, hb5⟩
        have hl5 : l5 ≤ 700000 := by have h1 := hlA.out; have h2 := hlB.out; omega
        have hl5' := Lib.hid hl5
        have hB5 := Lib.hid ((hB2.out).below hb5 (by have := hs2.out; omega))
        have hs5 : Hid (w.heap.size + 3 ≤ w5.heap.size) := Nat.le_trans hs2.out hb5.size
        have hbW5 := Lib.hid ((hbW2.out).trans (hb5.mono (by have := hs2.out; omega)))
        have hb5' := Lib.hid hb5
        have hv5 := Lib.hid hv5'
        clear hb5 hv5'
        go_wp2_with fail
        refine (num_made C l5 c5 _ zs _ hU5 (by omega) (n + m) ?_).mono ?_
        · have h1 := hv1.out
          have h2 := hv2.out
          have h3 := hv5.out
          show _ = _
          simp [hn]
          omega
        rintro e w6 ⟨z6, rfl, hz6, hb6⟩
        have hB6 := (hB5.out).below hb6 (by have := hs5.out; omega)
        obtain ⟨hc0, hc1, hc2, hf0, hf1, hf2⟩ := blk3 hB6
        have hB6 := Lib.hid hB6
        have hbW := Lib.hid ((hbW5.out).trans (hb6.mono (by have := hs5.out; omega)))
        have hb6 := Lib.hid hb6
        go_wp2_with fail
        refine bodyPost_ret (v := .agg #[.int .i64 z6.x, .slice z6.A z6.l z6.c, .bool z6.g]) (by simp [results, Try.results46, go_sem, hc0, hc1, hc2, hf0, hf1, hf2]) rfl ⟨z6, rfl, hz6.set (NoW.z hB6.out) (SetB.set3 _ _ _ _ _ _ _ _), ((hbW.out.setCell (p := ⟨w.heap.size + 2, 0, none⟩) (Nat.le_add_right _ _) _).setCell (p := ⟨w.heap.size + 2, 1, none⟩) (Nat.le_add_right _ _) _).setCell (p := ⟨w.heap.size + 2, 2, none⟩) (Nat.le_add_right _ _) _⟩

set_option maxRecDepth 100000 in
set_option maxHeartbeats 4000000 in
theorem num_Add2 (z y : Zv) (n m : Int) (w : World) (hz : ZR w z n) (hy : ZR w y m) (hF : Fit n) (hG : Fit m) (h1 : z.A.isNone = true) (h2 : y.A.isNone = false) :
    Calls Try.prog 46 #[.agg #[.int .i64 z.x, .slice z.A z.l z.c, .bool z.g], .agg #[.int .i64 y.x, .slice y.A y.l y.c, .bool y.g]] w (PZ w (n + m)) := by
  have hu := Try.underlying45
  · go_enter Try.func46, Try.ntmps46
    go_upto_if 17 with (fail)
    go_cut [5] (fun v5 wc => Hid (Blk wc w.heap.size 45 #[.int .i64 z.x, .slice z.A z.l z.c, .bool z.g]) ∧ Hid (Blk wc (w.heap.size + 1) 45 #[.int .i64 y.x, .slice y.A y.l y.c, .bool y.g]) ∧ Hid (Blk wc (w.heap.size + 2) 45 #[.int .i64 0, .slice none 0 0, .bool false]) ∧ Hid (Below w.heap.size w wc) ∧ Hid (w.heap.size + 3 ≤ wc.heap.size))
    case first =>
      go_wp2_with fail
      go_meet
      exact ⟨by show Blk _ _ _ _; have := ((Blk.new w 45 #[.int .i64 z.x, .slice z.A z.l z.c, .bool z.g]).alloc (.cells #[.int .i64 y.x, .slice y.A y.l y.c, .bool y.g] 45)).alloc (.cells #[.int .i64 0, .slice none 0 0, .bool false] 45); simpa using this, by show Blk _ _ _ _; have := (Blk.new (w.alloc (.cells #[.int .i64 z.x, .slice z.A z.l z.c, .bool z.g] 45)) 45 #[.int .i64 y.x, .slice y.A y.l y.c, .bool y.g]).alloc (.cells #[.int .i64 0, .slice none 0 0, .bool false] 45); simpa using this, by show Blk _ _ _ _; have := Blk.new ((w.alloc (.cells #[.int .i64 z.x, .slice z.A z.l z.c, .bool z.g] 45)).alloc (.cells #[.int .i64 y.x, .slice y.A y.l y.c, .bool y.g] 45)) 45 #[.int .i64 0, .slice none 0 0, .bool false]; simpa using this, (((Below.refl _ _).alloc (Nat.le_refl _) _).alloc (by simp) _).alloc (by simp; omega) _, by show _ ≤ _; simp⟩
    case rest =>
      obtain ⟨hBz, hBy, hB0, hbW, hsz⟩ := hcut
      obtain ⟨hz0, hz1, hz2, -, -, -⟩ := blk3 hBz.out
      obtain ⟨hy0, hy1, hy2, -, -, -⟩ := blk3 hBy.out
      go_wp2_with fail
      refine (num_words z n _ (hz.below hbW.out (Nat.le_refl _))).mono ?_
      rintro e w1 ⟨A, l, c, xs, rfl, hU, hT, hv, hb1⟩
      have hlA := Lib.hid (hF.len hU hT hv)
      have hv1 := Lib.hid hv
      clear hv
      have hy0 := (hb1.cell (p := ⟨w.heap.size + 1, 0, none⟩) (by have := hsz.out; show w.heap.size + 1 < wc.heap.size; omega)).trans hy0
      have hy1 := (hb1.cell (p := ⟨w.heap.size + 1, 1, none⟩) (by have := hsz.out; show w.heap.size + 1 < wc.heap.size; omega)).trans hy1
      have hy2 := (hb1.cell (p := ⟨w.heap.size + 1, 2, none⟩) (by have := hsz.out; show w.heap.size + 1 < wc.heap.size; omega)).trans hy2
      have hB1 := Lib.hid ((hB0.out).below hb1 (by have := hsz.out; omega))
      have hs1 : Hid (w.heap.size + 3 ≤ w1.heap.size) := Nat.le_trans hsz.out hb1.size
      have hbW1 := Lib.hid ((hbW.out).trans (hb1.mono (by have := hsz.out; omega)))
      have hb1' := Lib.hid hb1
      clear hb1
      go_wp2_with fail
      refine (num_words y m _ (hy.below hbW1.out (Nat.le_refl _))).mono ?_
      rintro e w2 ⟨B, k, d, ys, rfl, hV, hT2, hv, hb2'⟩
      have hlB := Lib.hid (hG.len hV hT2 hv)
      have hv2 := Lib.hid hv
      clear hv
      have hB2 := Lib.hid ((hB1.out).below hb2' (by have := hs1.out; omega))
      have hs2 : Hid (w.heap.size + 3 ≤ w2.heap.size) := Nat.le_trans hs1.out hb2'.size
      have hbW2 := Lib.hid ((hbW1.out).trans (hb2'.mono (by have := hs1.out; omega)))
      have hb2 := Lib.hid hb2'
      clear hb2'
      by_cases hn : n < 0 <;> by_cases hm : m < 0
      · have hq : (decide (n < 0) == decide (m < 0)) = true := by simp [hn, hm]
        go_wp2_with fail
        refine (num_addWords A B l c k d xs ys _ (hU.below hb2.out (Nat.le_refl _)) hV (by have := hlA.out; omega) (by have := hlB.out; omega)).mono ?_
        rintro e w5 ⟨C, l5, c5, zs, rfl, hU5, hv5', hl5, hb5⟩
        have hl5 : l5 ≤ 700000 := by have h1 := hlA.out; have h2 := hlB.out; omega
        have hl5' := Lib.hid hl5
        have hB5 := Lib.hid ((hB2.out).below hb5 (by have := hs2.out; omega))
        have hs5 : Hid (w.heap.size + 3 ≤ w5.heap.size) := Nat.le_trans hs2.out hb5.size
        have hbW5 := Lib.hid ((hbW2.out).trans (hb5.mono (by have := hs2.out; omega)))
        have hb5' := Lib.hid hb5
        have hv5 := Lib.hid hv5'
        clear hb5 hv5'
        go_wp2_with fail
        refine (num_made C l5 c5 _ zs _ hU5 (by omega) (n + m) ?_).mono ?_
        · have h1 := hv1.out
          have h2 := hv2.out
          have h3 := hv5.out
          show _ = _
          simp [hn]
          omega
        rintro e w6 ⟨z6, rfl, hz6, hb6⟩
        have hB6 := (hB5.out).below hb6 (by have := hs5.out; omega)
        obtain ⟨hc0, hc1, hc2, hf0, hf1, hf2⟩ := blk3 hB6
        have hB6 := Lib.hid hB6
        have hbW := Lib.hid ((hbW5.out).trans (hb6.mono (by have := hs5.out; omega)))
        have hb6 := Lib.hid hb6
        go_wp2_with fail
        refine bodyPost_ret (v := .agg #[.int .i64 z6.x, .slice z6.A z6.l z6.c, .bool z6.g]) (by simp [results, Try.results46, go_sem, hc0, hc1, hc2, hf0, hf1, hf2]) rfl ⟨z6, rfl, hz6.set (NoW.z hB6.out) (SetB.set3 _ _ _ _ _ _ _ _), ((hbW.out.setCell (p := ⟨w.heap.size + 2, 0, none⟩) (Nat.le_add_right _ _) _).setCell (p := ⟨w.heap.size + 2, 1, none⟩) (Nat.le_add_right _ _) _).setCell (p := ⟨w.heap.size + 2, 2, none⟩) (Nat.le_add_right _ _) _⟩

      · have hq : (decide (n < 0) == decide (m < 0)) = false := by simp [hn, hm]
        go_wp2_with fail
        refine (num_cmpWords A B l c k d xs ys _ (hU.below hb2.out (Nat.le_refl _)) hV hT hT2 (by have := hlA.out; omega) (by have := hlB.out; omega)).mono ?_
        rintro e w4 ⟨he, hb4⟩
        have hB4 := Lib.hid ((hB2.out).below hb4 (by have := hs2.out; omega))
        have hs4 : Hid (w.heap.size + 3 ≤ w4.heap.size) := Nat.le_trans hs2.out hb4.size
        have hbW4 := Lib.hid ((hbW2.out).trans (hb4.mono (by have := hs2.out; omega)))
        have hU4 := (hU.below hb2.out (Nat.le_refl _)).below hb4 (Nat.le_refl _)
        have hV4 := hV.below hb4 (Nat.le_refl _)
        clear hb4
        rcases Nat.lt_or_ge (val xs) (val ys) with hlt | hge
        · rw [cmpN_lt hlt] at he
          subst he
          have hlen := len_le_of_val hV.2.1 hT (Nat.le_of_lt hlt)
          have hle : Hid (val xs ≤ val ys) := Nat.le_of_lt hlt
          clear hlt
          go_wp2_with fail
          refine (num_subWords B A k d l c ys xs _ hV4 hU4 (by have := hlB.out; omega) (by rw [hU.1, hV.1] at hlen; exact hlen) hle).mono ?_
          rintro e w5 ⟨C, l5, c5, zs, rfl, hU5, hv5', hl5, hb5⟩
          have hl5 : l5 ≤ 700000 := by have h2 := hlB.out; omega
          have hl5' := Lib.hid hl5
          have hB5 := Lib.hid ((hB4.out).below hb5 (by have := hs4.out; omega))
          have hs5 : Hid (w.heap.size + 3 ≤ w5.heap.size) := Nat.le_trans hs4.out hb5.size
          have hbW5 := Lib.hid ((hbW4.out).trans (hb5.mono (by have := hs4.out; omega)))
          have hb5' := Lib.hid hb5
          have hv5 := Lib.hid hv5'
          clear hb5 hv5'
          go_wp2_with fail
          refine (num_made C l5 c5 _ zs _ hU5 (by omega) (n + m) ?_).mono ?_
          · have h1 := hv1.out
            have h2 := hv2.out
            have h3 := hv5.out
            show _ = _
            simp [hm]
            omega
          rintro e w6 ⟨z6, rfl, hz6, hb6⟩
          have hB6 := (hB5.out).below hb6 (by have := hs5.out; omega)
          obtain ⟨hc0, hc1, hc2, hf0, hf1, hf2⟩ := blk3 hB6
          have hB6 := Lib.hid hB6
          have hbW := Lib.hid ((hbW5.out).trans (hb6.mono (by have := hs5.out; omega)))
          have hb6 := Lib.hid hb6
          go_wp2_with fail
          refine bodyPost_ret (v := .agg #[.int .i64 z6.x, .slice z6.A z6.l z6.c, .bool z6.g]) (by simp [results, Try.results46, go_sem, hc0, hc1, hc2, hf0, hf1, hf2]) rfl ⟨z6, rfl, hz6.set (NoW.z hB6.out) (SetB.set3 _ _ _ _ _ _ _ _), ((hbW.out.setCell (p := ⟨w.heap.size + 2, 0, none⟩) (Nat.le_add_right _ _) _).setCell (p := ⟨w.heap.size + 2, 1, none⟩) (Nat.le_add_right _ _) _).setCell (p := ⟨w.heap.size + 2, 2, none⟩) (Nat.le_add_right _ _) _⟩
        · obtain ⟨q, hq0, he'⟩ : ∃ q : Int, 0 ≤ q ∧ e = .returned (.int .i64 q) := by
            rcases Nat.lt_or_ge (val ys) (val xs) with h1 | h1
            · exact ⟨1, by omega, by rw [he, cmpN_gt h1]⟩
            · exact ⟨0, by omega, by rw [he, cmpN_eq (by omega)]⟩
          subst he'
          clear he
          have hlen := len_le_of_val hU.2.1 hT2 hge
          have hle : Hid (val ys ≤ val xs) := hge
          clear hge
          go_wp2_with fail
          refine (num_subWords A B l c k d xs ys _ hU4 hV4 (by have := hlA.out; omega) (by rw [hU.1, hV.1] at hlen; exact hlen) hle).mono ?_
          rintro e w5 ⟨C, l5, c5, zs, rfl, hU5, hv5', hl5, hb5⟩
          have hl5 : l5 ≤ 700000 := by have h2 := hlA.out; omega
          have hl5' := Lib.hid hl5
          have hB5 := Lib.hid ((hB4.out).below hb5 (by have := hs4.out; omega))
          have hs5 : Hid (w.heap.size + 3 ≤ w5.heap.size) := Nat.le_trans hs4.out hb5.size
          have hbW5 := Lib.hid ((hbW4.out).trans (hb5.mono (by have := hs4.out; omega)))
          have hb5' := Lib.hid hb5
          have hv5 := Lib.hid hv5'
          clear hb5 hv5'
          go_wp2_with fail
          refine (num_made C l5 c5 _ zs _ hU5 (by omega) (n + m) ?_).mono ?_
          · have h1 := hv1.out
            have h2 := hv2.out
            have h3 := hv5.out
            show _ = _
            simp [hn]
            omega
          rintro e w6 ⟨z6, rfl, hz6, hb6⟩
          have hB6 := (hB5.out).below hb6 (by have := hs5.out; omega)
          obtain ⟨hc0, hc1, hc2, hf0, hf1, hf2⟩ := blk3 hB6
          have hB6 := Lib.hid hB6
          have hbW := Lib.hid ((hbW5.out).trans (hb6.mono (by have := hs5.out; omega)))
          have hb6 := Lib.hid hb6
          go_wp2_with fail
          refine bodyPost_ret (v := .agg #[.int .i64 z6.x, .slice z6.A z6.l z6.c, .bool z6.g]) (by simp [results, Try.results46, go_sem, hc0, hc1, hc2, hf0, hf1, hf2]) rfl ⟨z6, rfl, hz6.set (NoW.z hB6.out) (SetB.set3 _ _ _ _ _ _ _ _), ((hbW.out.setCell (p := ⟨w.heap.size + 2, 0, none⟩) (Nat.le_add_right _ _) _).setCell (p := ⟨w.heap.size + 2, 1, none⟩) (Nat.le_add_right _ _) _).setCell (p := ⟨w.heap.size + 2, 2, none⟩) (Nat.le_add_right _ _) _⟩

      · have hq : (decide (n < 0) == decide (m < 0)) = false := by simp [hn, hm]
        go_wp2_with fail
        refine (num_cmpWords A B l c k d xs ys _ (hU.below hb2.out (Nat.le_refl _)) hV hT hT2 (by have := hlA.out; omega) (by have := hlB.out; omega)).mono ?_
        rintro e w4 ⟨he, hb4⟩
        have hB4 := Lib.hid ((hB2.out).below hb4 (by have := hs2.out; omega))
        have hs4 : Hid (w.heap.size + 3 ≤ w4.heap.size) := Nat.le_trans hs2.out hb4.size
        have hbW4 := Lib.hid ((hbW2.out).trans (hb4.mono (by have := hs2.out; omega)))
        have hU4 := (hU.below hb2.out (Nat.le_refl _)).below hb4 (Nat.le_refl _)
        have hV4 := hV.below hb4 (Nat.le_refl _)
        clear hb4
        rcases Nat.lt_or_ge (val xs) (val ys) with hlt | hge
        · rw [cmpN_lt hlt] at he
          subst he
          have hlen := len_le_of_val hV.2.1 hT (Nat.le_of_lt hlt)
          have hle : Hid (val xs ≤ val ys) := Nat.le_of_lt hlt
          clear hlt
          go_wp2_with fail
          refine (num_subWords B A k d l c ys xs _ hV4 hU4 (by have := hlB.out; omega) (by rw [hU.1, hV.1] at hlen; exact hlen) hle).mono ?_
          rintro e w5 ⟨C, l5, c5, zs, rfl, hU5, hv5', hl5, hb5⟩
          have hl5 : l5 ≤ 700000 := by have h2 := hlB.out; omega
          have hl5' := Lib.hid hl5
          have hB5 := Lib.hid ((hB4.out).below hb5 (by have := hs4.out; omega))
          have hs5 : Hid (w.heap.size + 3 ≤ w5.heap.size) := Nat.le_trans hs4.out hb5.size
          have hbW5 := Lib.hid ((hbW4.out).trans (hb5.mono (by have := hs4.out; omega)))
          have hb5' := Lib.hid hb5
          have hv5 := Lib.hid hv5'
          clear hb5 hv5'
          go_wp2_with fail
          refine (num_made C l5 c5 _ zs _ hU5 (by omega) (n + m) ?_).mono ?_
          · have h1 := hv1.out
            have h2 := hv2.out
            have h3 := hv5.out
            show _ = _
            simp [hm]
            omega
          rintro e w6 ⟨z6, rfl, hz6, hb6⟩
          have hB6 := (hB5.out).below hb6 (by have := hs5.out; omega)
          obtain ⟨hc0, hc1, hc2, hf0, hf1, hf2⟩ := blk3 hB6
          have hB6 := Lib.hid hB6
          have hbW := Lib.hid ((hbW5.out).trans (hb6.mono (by have := hs5.out; omega)))
          have hb6 := Lib.hid hb6
          go_wp2_with fail
          refine bodyPost_ret (v := .agg #[.int .i64 z6.x, .slice z6.A z6.l z6.c, .bool z6.g]) (by simp [results, Try.results46, go_sem, hc0, hc1, hc2, hf0, hf1, hf2]) rfl ⟨z6, rfl, hz6.set (NoW.z hB6.out) (SetB.set3 _ _ _ _ _ _ _ _), ((hbW.out.setCell (p := ⟨w.heap.size + 2, 0, none⟩) (Nat.le_add_right _ _) _).setCell (p := ⟨w.heap.size + 2, 1, none⟩) (Nat.le_add_right _ _) _).setCell (p := ⟨w.heap.size + 2, 2, none⟩) (Nat.le_add_right _ _) _⟩
        · obtain ⟨q, hq0, he'⟩ : ∃ q : Int, 0 ≤ q ∧ e = .returned (.int .i64 q) := by
            rcases Nat.lt_or_ge (val ys) (val xs) with h1 | h1
            · exact ⟨1, by omega, by rw [he, cmpN_gt h1]⟩
            · exact ⟨0, by omega, by rw [he, cmpN_eq (by omega)]⟩
          subst he'
          clear he
          have hlen := len_le_of_val hU.2.1 hT2 hge
          have hle : Hid (val ys ≤ val xs) := hge
          clear hge
          go_wp2_with fail
          refine (num_subWords A B l c k d xs ys _ hU4 hV4 (by have := hlA.out; omega) (by rw [hU.1, hV.1] at hlen; exact hlen) hle).mono ?_
          rintro e w5 ⟨C, l5, c5, zs, rfl, hU5, hv5', hl5, hb5⟩
          have hl5 : l5 ≤ 700000 := by have h2 := hlA.out; omega
          have hl5' := Lib.hid hl5
          have hB5 := Lib.hid ((hB4.out).below hb5 (by have := hs4.out; omega))
          have hs5 : Hid (w.heap.size + 3 ≤ w5.heap.size) := Nat.le_trans hs4.out hb5.size
          have hbW5 := Lib.hid ((hbW4.out).trans (hb5.mono (by have := hs4.out; omega)))
          have hb5' := Lib.hid hb5
          have hv5 := Lib.hid hv5'
          clear hb5 hv5'
          go_wp2_with fail
          refine (num_made C l5 c5 _ zs _ hU5 (by omega) (n + m) ?_).mono ?_
          · have h1 := hv1.out
            have h2 := hv2.out
            have h3 := hv5.out
            show _ = _
            simp [hn]
            omega
          rintro e w6 ⟨z6, rfl, hz6, hb6⟩
          have hB6 := (hB5.out).below hb6 (by have := hs5.out; omega)
          obtain ⟨hc0, hc1, hc2, hf0, hf1, hf2⟩ := blk3 hB6
          have hB6 := Lib.hid hB6
          have hbW := Lib.hid ((hbW5.out).trans (hb6.mono (by have := hs5.out; omega)))
          have hb6 := Lib.hid hb6
          go_wp2_with fail
          refine bodyPost_ret (v := .agg #[.int .i64 z6.x, .slice z6.A z6.l z6.c, .bool z6.g]) (by simp [results, Try.results46, go_sem, hc0, hc1, hc2, hf0, hf1, hf2]) rfl ⟨z6, rfl, hz6.set (NoW.z hB6.out) (SetB.set3 _ _ _ _ _ _ _ _), ((hbW.out.setCell (p := ⟨w.heap.size + 2, 0, none⟩) (Nat.le_add_right _ _) _).setCell (p := ⟨w.heap.size + 2, 1, none⟩) (Nat.le_add_right _ _) _).setCell (p := ⟨w.heap.size + 2, 2, none⟩) (Nat.le_add_right _ _) _⟩

      · have hq : (decide (n < 0) == decide (m < 0)) = true := by simp [hn, hm]
        go_wp2_with fail
        refine (num_addWords A B l c k d xs ys _ (hU.below hb2.out (Nat.le_refl _)) hV (by have := hlA.out; omega) (by have := hlB.out; omega)).mono ?_
        rintro e w5 ⟨C, l5, c5, zs, rfl, hU5, hv5', hl5, hb5⟩
        have hl5 : l5 ≤ 700000 := by have h1 := hlA.out; have h2 := hlB.out; omega
        have hl5' := Lib.hid hl5
        have hB5 := Lib.hid ((hB2.out).below hb5 (by have := hs2.out; omega))
        have hs5 : Hid (w.heap.size + 3 ≤ w5.heap.size) := Nat.le_trans hs2.out hb5.size
        have hbW5 := Lib.hid ((hbW2.out).trans (hb5.mono (by have := hs2.out; omega)))
        have hb5' := Lib.hid hb5
        have hv5 := Lib.hid hv5'
        clear hb5 hv5'
        go_wp2_with fail
        refine (num_made C l5 c5 _ zs _ hU5 (by omega) (n + m) ?_).mono ?_
        · have h1 := hv1.out
          have h2 := hv2.out
          have h3 := hv5.out
          show _ = _
          simp [hn]
          omega
        rintro e w6 ⟨z6, rfl, hz6, hb6⟩
        have hB6 := (hB5.out).below hb6 (by have := hs5.out; omega)
        obtain ⟨hc0, hc1, hc2, hf0, hf1, hf2⟩ := blk3 hB6
        have hB6 := Lib.hid hB6
        have hbW := Lib.hid ((hbW5.out).trans (hb6.mono (by have := hs5.out; omega)))
        have hb6 := Lib.hid hb6
        go_wp2_with fail
        refine bodyPost_ret (v := .agg #[.int .i64 z6.x, .slice z6.A z6.l z6.c, .bool z6.g]) (by simp [results, Try.results46, go_sem, hc0, hc1, hc2, hf0, hf1, hf2]) rfl ⟨z6, rfl, hz6.set (NoW.z hB6.out) (SetB.set3 _ _ _ _ _ _ _ _), ((hbW.out.setCell (p := ⟨w.heap.size + 2, 0, none⟩) (Nat.le_add_right _ _) _).setCell (p := ⟨w.heap.size + 2, 1, none⟩) (Nat.le_add_right _ _) _).setCell (p := ⟨w.heap.size + 2, 2, none⟩) (Nat.le_add_right _ _) _⟩

set_option maxRecDepth 100000 in
set_option maxHeartbeats 4000000 in
theorem num_Add3 (z y : Zv) (n m : Int) (w : World) (hz : ZR w z n) (hy : ZR w y m) (hF : Fit n) (hG : Fit m) (h1 : z.A.isNone = true) (h2 : y.A.isNone = true) (h3 : (decide (z.x < wrap64 (z.x + y.x)) == decide (0 < y.x)) = false) :
    Calls Try.prog 46 #[.agg #[.int .i64 z.x, .slice z.A z.l z.c, .bool z.g], .agg #[.int .i64 y.x, .slice y.A y.l y.c, .bool y.g]] w (PZ w (n + m)) := by
  have hu := Try.underlying45
  · go_enter Try.func46, Try.ntmps46
    go_upto_if 17 with (fail)
    go_cut [5] (fun v5 wc => Hid (Blk wc w.heap.size 45 #[.int .i64 z.x, .slice z.A z.l z.c, .bool z.g]) ∧ Hid (Blk wc (w.heap.size + 1) 45 #[.int .i64 y.x, .slice y.A y.l y.c, .bool y.g]) ∧ Hid (Blk wc (w.heap.size + 2) 45 #[.int .i64 0, .slice none 0 0, .bool false]) ∧ Hid (Below w.heap.size w wc) ∧ Hid (w.heap.size + 3 ≤ wc.heap.size))
    case first =>
      go_wp2_with fail
      go_meet
      exact ⟨by show Blk _ _ _ _; have := ((Blk.new w 45 #[.int .i64 z.x, .slice z.A z.l z.c, .bool z.g]).alloc (.cells #[.int .i64 y.x, .slice y.A y.l y.c, .bool y.g] 45)).alloc (.cells #[.int .i64 0, .slice none 0 0, .bool false] 45); simpa using this, by show Blk _ _ _ _; have := (Blk.new (w.alloc (.cells #[.int .i64 z.x, .slice z.A z.l z.c, .bool z.g] 45)) 45 #[.int .i64 y.x, .slice y.A y.l y.c, .bool y.g]).alloc (.cells #[.int .i64 0, .slice none 0 0, .bool false] 45); simpa using this, by show Blk _ _ _ _; have := Blk.new ((w.alloc (.cells #[.int .i64 z.x, .slice z.A z.l z.c, .bool z.g] 45)).alloc (.cells #[.int .i64 y.x, .slice y.A y.l y.c, .bool y.g] 45)) 45 #[.int .i64 0, .slice none 0 0, .bool false]; simpa using this, (((Below.refl _ _).alloc (Nat.le_refl _) _).alloc (by simp) _).alloc (by simp; omega) _, by show _ ≤ _; simp⟩
    case rest =>
      obtain ⟨hBz, hBy, hB0, hbW, hsz⟩ := hcut
      obtain ⟨hz0, hz1, hz2, -, -, -⟩ := blk3 hBz.out
      obtain ⟨hy0, hy1, hy2, -, -, -⟩ := blk3 hBy.out
      go_wp2_with fail
      refine (num_words z n _ (hz.below hbW.out (Nat.le_refl _))).mono ?_
      rintro e w1 ⟨A, l, c, xs, rfl, hU, hT, hv, hb1⟩
      have hlA := Lib.hid (hF.len hU hT hv)
      have hv1 := Lib.hid hv
      clear hv
      have hy0 := (hb1.cell (p := ⟨w.heap.size + 1, 0, none⟩) (by have := hsz.out; show w.heap.size + 1 < wc.heap.size; omega)).trans hy0
      have hy1 := (hb1.cell (p := ⟨w.heap.size + 1, 1, none⟩) (by have := hsz.out; show w.heap.size + 1 < wc.heap.size; omega)).trans hy1
      have hy2 := (hb1.cell (p := ⟨w.heap.size + 1, 2, none⟩) (by have := hsz.out; show w.heap.size + 1 < wc.heap.size; omega)).trans hy2
      have hB1 := Lib.hid ((hB0.out).below hb1 (by have := hsz.out; omega))
      have hs1 : Hid (w.heap.size + 3 ≤ w1.heap.size) := Nat.le_trans hsz.out hb1.size
      have hbW1 := Lib.hid ((hbW.out).trans (hb1.mono (by have := hsz.out; omega)))
      have hb1' := Lib.hid hb1
      clear hb1
      go_wp2_with fail
      refine (num_words y m _ (hy.below hbW1.out (Nat.le_refl _))).mono ?_
      rintro e w2 ⟨B, k, d, ys, rfl, hV, hT2, hv, hb2'⟩
      have hlB := Lib.hid (hG.len hV hT2 hv)
      have hv2 := Lib.hid hv
      clear hv
      have hB2 := Lib.hid ((hB1.out).below hb2' (by have := hs1.out; omega))
      have hs2 : Hid (w.heap.size + 3 ≤ w2.heap.size) := Nat.le_trans hs1.out hb2'.size
      have hbW2 := Lib.hid ((hbW1.out).trans (hb2'.mono (by have := hs1.out; omega)))
      have hb2 := Lib.hid hb2'
      clear hb2'
      by_cases hn : n < 0 <;> by_cases hm : m < 0
      · have hq : (decide (n < 0) == decide (m < 0)) = true := by simp [hn, hm]
        go_wp2_with fail
        refine (num_addWords A B l c k d xs ys _ (hU.below hb2.out (Nat.le_refl _)) hV (by have := hlA.out; omega) (by have := hlB.out; omega)).mono ?_
        rintro e w5 ⟨C, l5, c5, zs, rfl, hU5, hv5', hl5, hb5⟩
        have hl5 : l5 ≤ 700000 := by have h1 := hlA.out; have h2 := hlB.out; omega
        have hl5' := Lib.hid hl5
        have hB5 := Lib.hid ((hB2.out).below hb5 (by have := hs2.out; omega))
        have hs5 : Hid (w.heap.size + 3 ≤ w5.heap.size) := Nat.le_trans hs2.out hb5.size
        have hbW5 := Lib.hid ((hbW2.out).trans (hb5.mono (by have := hs2.out; omega)))
        have hb5' := Lib.hid hb5
        have hv5 := Lib.hid hv5'
        clear hb5 hv5'
        go_wp2_with fail
        refine (num_made C l5 c5 _ zs _ hU5 (by omega) (n + m) ?_).mono ?_
        · have h1 := hv1.out
          have h2 := hv2.out
          have h3 := hv5.out
          show _ = _
          simp [hn]
          omega
        rintro e w6 ⟨z6, rfl, hz6, hb6⟩
        have hB6 := (hB5.out).below hb6 (by have := hs5.out; omega)
        obtain ⟨hc0, hc1, hc2, hf0, hf1, hf2⟩ := blk3 hB6
        have hB6 := Lib.hid hB6
        have hbW := Lib.hid ((hbW5.out).trans (hb6.mono (by have := hs5.out; omega)))
        have hb6 := Lib.hid hb6
        go_wp2_with fail
        refine bodyPost_ret (v := .agg #[.int .i64 z6.x, .slice z6.A z6.l z6.c, .bool z6.g]) (by simp [results, Try.results46, go_sem, hc0, hc1, hc2, hf0, hf1, hf2]) rfl ⟨z6, rfl, hz6.set (NoW.z hB6.out) (SetB.set3 _ _ _ _ _ _ _ _), ((hbW.out.setCell (p := ⟨w.heap.size + 2, 0, none⟩) (Nat.le_add_right _ _) _).setCell (p := ⟨w.heap.size + 2, 1, none⟩) (Nat.le_add_right _ _) _).setCell (p := ⟨w.heap.size + 2, 2, none⟩) (Nat.le_add_right _ _) _⟩

      · have hq : (decide (n < 0) == decide (m < 0)) = false := by simp [hn, hm]
        go_wp2_with fail
        refine (num_cmpWords A B l c k d xs ys _ (hU.below hb2.out (Nat.le_refl _)) hV hT hT2 (by have := hlA.out; omega) (by have := hlB.out; omega)).mono ?_
        rintro e w4 ⟨he, hb4⟩
        have hB4 := Lib.hid ((hB2.out).below hb4 (by have := hs2.out; omega))
        have hs4 : Hid (w.heap.size + 3 ≤ w4.heap.size) := Nat.le_trans hs2.out hb4.size
        have hbW4 := Lib.hid ((hbW2.out).trans (hb4.mono (by have := hs2.out; omega)))
        have hU4 := (hU.below hb2.out (Nat.le_refl _)).below hb4 (Nat.le_refl _)
        have hV4 := hV.below hb4 (Nat.le_refl _)
        clear hb4
        rcases Nat.lt_or_ge (val xs) (val ys) with hlt | hge
        · rw [cmpN_lt hlt] at he
          subst he
          have hlen := len_le_of_val hV.2.1 hT (Nat.le_of_lt hlt)
          have hle : Hid (val xs ≤ val ys) := Nat.le_of_lt hlt
          clear hlt
          go_wp2_with fail
          refine (num_subWords B A k d l c ys xs _ hV4 hU4 (by have := hlB.out; omega) (by rw [hU.1, hV.1] at hlen; exact hlen) hle).mono ?_
          rintro e w5 ⟨C, l5, c5, zs, rfl, hU5, hv5', hl5, hb5⟩
          have hl5 : l5 ≤ 700000 := by have h2 := hlB.out; omega
          have hl5' := Lib.hid hl5
          have hB5 := Lib.hid ((hB4.out).below hb5 (by have := hs4.out; omega))
          have hs5 : Hid (w.heap.size + 3 ≤ w5.heap.size) := Nat.le_trans hs4.out hb5.size
          have hbW5 := Lib.hid ((hbW4.out).trans (hb5.mono (by have := hs4.out; omega)))
          have hb5' := Lib.hid hb5
          have hv5 := Lib.hid hv5'
          clear hb5 hv5'
          go_wp2_with fail
          refine (num_made C l5 c5 _ zs _ hU5 (by omega) (n + m) ?_).mono ?_
          · have h1 := hv1.out
            have h2 := hv2.out
            have h3 := hv5.out
            show _ = _
            simp [hm]
            omega
          rintro e w6 ⟨z6, rfl, hz6, hb6⟩
          have hB6 := (hB5.out).below hb6 (by have := hs5.out; omega)
          obtain ⟨hc0, hc1, hc2, hf0, hf1, hf2⟩ := blk3 hB6
          have hB6 := Lib.hid hB6
          have hbW := Lib.hid ((hbW5.out).trans (hb6.mono (by have := hs5.out; omega)))
          have hb6 := Lib.hid hb6
          go_wp2_with fail
          refine bodyPost_ret (v := .agg #[.int .i64 z6.x, .slice z6.A z6.l z6.c, .bool z6.g]) (by simp [results, Try.results46, go_sem, hc0, hc1, hc2, hf0, hf1, hf2]) rfl ⟨z6, rfl, hz6.set (NoW.z hB6.out) (SetB.set3 _ _ _ _ _ _ _ _), ((hbW.out.setCell (p := ⟨w.heap.size + 2, 0, none⟩) (Nat.le_add_right _ _) _).setCell (p := ⟨w.heap.size + 2, 1, none⟩) (Nat.le_add_right _ _) _).setCell (p := ⟨w.heap.size + 2, 2, none⟩) (Nat.le_add_right _ _) _⟩
        · obtain ⟨q, hq0, he'⟩ : ∃ q : Int, 0 ≤ q ∧ e = .returned (.int .i64 q) := by
            rcases Nat.lt_or_ge (val ys) (val xs) with h1 | h1
            · exact ⟨1, by omega, by rw [he, cmpN_gt h1]⟩
            · exact ⟨0, by omega, by rw [he, cmpN_eq (by omega)]⟩
          subst he'
          clear he
          have hlen := len_le_of_val hU.2.1 hT2 hge
          have hle : Hid (val ys ≤ val xs) := hge
          clear hge
          go_wp2_with fail
          refine (num_subWords A B l c k d xs ys _ hU4 hV4 (by have := hlA.out; omega) (by rw [hU.1, hV.1] at hlen; exact hlen) hle).mono ?_
          rintro e w5 ⟨C, l5, c5, zs, rfl, hU5, hv5', hl5, hb5⟩
          have hl5 : l5 ≤ 700000 := by have h2 := hlA.out; omega
          have hl5' := Lib.hid hl5
          have hB5 := Lib.hid ((hB4.out).below hb5 (by have := hs4.out; omega))
          have hs5 : Hid (w.heap.size + 3 ≤ w5.heap.size) := Nat.le_trans hs4.out hb5.size
          have hbW5 := Lib.hid ((hbW4.out).trans (hb5.mono (by have := hs4.out; omega)))
          have hb5' := Lib.hid hb5
          have hv5 := Lib.hid hv5'
          clear hb5 hv5'
          go_wp2_with fail
          refine (num_made C l5 c5 _ zs _ hU5 (by omega) (n + m) ?_).mono ?_
          · have h1 := hv1.out
            have h2 := hv2.out
            have h3 := hv5.out
            show _ = _
            simp [hn]
            omega
          rintro e w6 ⟨z6, rfl, hz6, hb6⟩
          have hB6 := (hB5.out).below hb6 (by have := hs5.out; omega)
          obtain ⟨hc0, hc1, hc2, hf0, hf1, hf2⟩ := blk3 hB6
          have hB6 := Lib.hid hB6
          have hbW := Lib.hid ((hbW5.out).trans (hb6.mono (by have := hs5.out; omega)))
          have hb6 := Lib.hid hb6
          go_wp2_with fail
          refine bodyPost_ret (v := .agg #[.int .i64 z6.x, .slice z6.A z6.l z6.c, .bool z6.g]) (by simp [results, Try.results46, go_sem, hc0, hc1, hc2, hf0, hf1, hf2]) rfl ⟨z6, rfl, hz6.set (NoW.z hB6.out) (SetB.set3 _ _ _ _ _ _ _ _), ((hbW.out.setCell (p := ⟨w.heap.size + 2, 0, none⟩) (Nat.le_add_right _ _) _).setCell (p := ⟨w.heap.size + 2, 1, none⟩) (Nat.le_add_right _ _) _).setCell (p := ⟨w.heap.size + 2, 2, none⟩) (Nat.le_add_right _ _) _⟩

      · have hq : (decide (n < 0) == decide (m < 0)) = false := by simp [hn, hm]
        go_wp2_with fail
        refine (num_cmpWords A B l c k d xs ys _ (hU.below hb2.out (Nat.le_refl _)) hV hT hT2 (by have := hlA.out; omega) (by have := hlB.out; omega)).mono ?_
        rintro e w4 ⟨he, hb4⟩
        have hB4 := Lib.hid ((hB2.out).below hb4 (by have := hs2.out; omega))
        have hs4 : Hid (w.heap.size + 3 ≤ w4.heap.size) := Nat.le_trans hs2.out hb4.size
        have hbW4 := Lib.hid ((hbW2.out).trans (hb4.mono (by have := hs2.out; omega)))
        have hU4 := (hU.below hb2.out (Nat.le_refl _)).below hb4 (Nat.le_refl _)
        have hV4 := hV.below hb4 (Nat.le_refl _)
        clear hb4
        rcases Nat.lt_or_ge (val xs) (val ys) with hlt | hge
        · rw [cmpN_lt hlt] at he
          subst he
          have hlen := len_le_of_val hV.2.1 hT (Nat.le_of_lt hlt)
          have hle : Hid (val xs ≤ val ys) := Nat.le_of_lt hlt
          clear hlt
          go_wp2_with fail
          refine (num_subWords B A k d l c ys xs _ hV4 hU4 (by have := hlB.out; omega) (by rw [hU.1, hV.1] at hlen; exact hlen) hle).mono ?_
          rintro e w5 ⟨C, l5, c5, zs, rfl, hU5, hv5', hl5, hb5⟩
          have hl5 : l5 ≤ 700000 := by have h2 := hlB.out; omega
          have hl5' := Lib.hid hl5
          have hB5 := Lib.hid ((hB4.out).below hb5 (by have := hs4.out; omega))
          have hs5 : Hid (w.heap.size + 3 ≤ w5.heap.size) := Nat.le_trans hs4.out hb5.size
          have hbW5 := Lib.hid ((hbW4.out).trans (hb5.mono (by have := hs4.out; omega)))
          have hb5' := Lib.hid hb5
          have hv5 := Lib.hid hv5'
          clear hb5 hv5'
          go_wp2_with fail
          refine (num_made C l5 c5 _ zs _ hU5 (by omega) (n + m) ?_).mono ?_
          · have h1 := hv1.out
            have h2 := hv2.out
            have h3 := hv5.out
            show _ = _
            simp [hm]
            omega
          rintro e w6 ⟨z6, rfl, hz6, hb6⟩
          have hB6 := (hB5.out).below hb6 (by have := hs5.out; omega)
          obtain ⟨hc0, hc1, hc2, hf0, hf1, hf2⟩ := blk3 hB6
          have hB6 := Lib.hid hB6
          have hbW := Lib.hid ((hbW5.out).trans (hb6.mono (by have := hs5.out; omega)))
          have hb6 := Lib.hid hb6
          go_wp2_with fail
          refine bodyPost_ret (v := .agg #[.int .i64 z6.x, .slice z6.A z6.l z6.c, .bool z6.g]) (by simp [results, Try.results46, go_sem, hc0, hc1, hc2, hf0, hf1, hf2]) rfl ⟨z6, rfl, hz6.set (NoW.z hB6.out) (SetB.set3 _ _ _ _ _ _ _ _), ((hbW.out.setCell (p := ⟨w.heap.size + 2, 0, none⟩) (Nat.le_add_right _ _) _).setCell (p := ⟨w.heap.size + 2, 1, none⟩) (Nat.le_add_right _ _) _).setCell (p := ⟨w.heap.size + 2, 2, none⟩) (Nat.le_add_right _ _) _⟩
        · obtain ⟨q, hq0, he'⟩ : ∃ q : Int, 0 ≤ q ∧ e = .returned (.int .i64 q) := by
            rcases Nat.lt_or_ge (val ys) (val xs) with h1 | h1
            · exact ⟨1, by omega, by rw [he, cmpN_gt h1]⟩
            · exact ⟨0, by omega, by rw [he, cmpN_eq (by omega)]⟩
          subst he'
          clear he
          have hlen := len_le_of_val hU.2.1 hT2 hge
          have hle : Hid (val ys ≤ val xs) := hge
          clear hge
          go_wp2_with fail
          refine (num_subWords A B l c k d xs ys _ hU4 hV4 (by have := hlA.out; omega) (by rw [hU.1, hV.1] at hlen; exact hlen) hle).mono ?_
          rintro e w5 ⟨C, l5, c5, zs, rfl, hU5, hv5', hl5, hb5⟩
          have hl5 : l5 ≤ 700000 := by have h2 := hlA.out; omega
          have hl5' := Lib.hid hl5
          have hB5 := Lib.hid ((hB4.out).below hb5 (by have := hs4.out; omega))
          have hs5 : Hid (w.heap.size + 3 ≤ w5.heap.size) := Nat.le_trans hs4.out hb5.size
          have hbW5 := Lib.hid ((hbW4.out).trans (hb5.mono (by have := hs4.out; omega)))
          have hb5' := Lib.hid hb5
          have hv5 := Lib.hid hv5'
          clear hb5 hv5'
          go_wp2_with fail
          refine (num_made C l5 c5 _ zs _ hU5 (by omega) (n + m) ?_).mono ?_
          · have h1 := hv1.out
            have h2 := hv2.out
            have h3 := hv5.out
            show _ = _
            simp [hn]
            omega
          rintro e w6 ⟨z6, rfl, hz6, hb6⟩
          have hB6 := (hB5.out).below hb6 (by have := hs5.out; omega)
          obtain ⟨hc0, hc1, hc2, hf0, hf1, hf2⟩ := blk3 hB6
          have hB6 := Lib.hid hB6
          have hbW := Lib.hid ((hbW5.out).trans (hb6.mono (by have := hs5.out; omega)))
          have hb6 := Lib.hid hb6
          go_wp2_with fail
          refine bodyPost_ret (v := .agg #[.int .i64 z6.x, .slice z6.A z6.l z6.c, .bool z6.g]) (by simp [results, Try.results46, go_sem, hc0, hc1, hc2, hf0, hf1, hf2]) rfl ⟨z6, rfl, hz6.set (NoW.z hB6.out) (SetB.set3 _ _ _ _ _ _ _ _), ((hbW.out.setCell (p := ⟨w.heap.size + 2, 0, none⟩) (Nat.le_add_right _ _) _).setCell (p := ⟨w.heap.size + 2, 1, none⟩) (Nat.le_add_right _ _) _).setCell (p := ⟨w.heap.size + 2, 2, none⟩) (Nat.le_add_right _ _) _⟩

      · have hq : (decide (n < 0) == decide (m < 0)) = true := by simp [hn, hm]
        go_wp2_with fail
        refine (num_addWords A B l c k d xs ys _ (hU.below hb2.out (Nat.le_refl _)) hV (by have := hlA.out; omega) (by have := hlB.out; omega)).mono ?_
        rintro e w5 ⟨C, l5, c5, zs, rfl, hU5, hv5', hl5, hb5⟩
        have hl5 : l5 ≤ 700000 := by have h1 := hlA.out; have h2 := hlB.out; omega
        have hl5' := Lib.hid hl5
        have hB5 := Lib.hid ((hB2.out).below hb5 (by have := hs2.out; omega))
        have hs5 : Hid (w.heap.size + 3 ≤ w5.heap.size) := Nat.le_trans hs2.out hb5.size
        have hbW5 := Lib.hid ((hbW2.out).trans (hb5.mono (by have := hs2.out; omega)))
        have hb5' := Lib.hid hb5
        have hv5 := Lib.hid hv5'
        clear hb5 hv5'
        go_wp2_with fail
        refine (num_made C l5 c5 _ zs _ hU5 (by omega) (n + m) ?_).mono ?_
        · have h1 := hv1.out
          have h2 := hv2.out
          have h3 := hv5.out
          show _ = _
          simp [hn]
          omega
        rintro e w6 ⟨z6, rfl, hz6, hb6⟩
        have hB6 := (hB5.out).below hb6 (by have := hs5.out; omega)
        obtain ⟨hc0, hc1, hc2, hf0, hf1, hf2⟩ := blk3 hB6
        have hB6 := Lib.hid hB6
        have hbW := Lib.hid ((hbW5.out).trans (hb6.mono (by have := hs5.out; omega)))
        have hb6 := Lib.hid hb6
        go_wp2_with fail
        refine bodyPost_ret (v := .agg #[.int .i64 z6.x, .slice z6.A z6.l z6.c, .bool z6.g]) (by simp [results, Try.results46, go_sem, hc0, hc1, hc2, hf0, hf1, hf2]) rfl ⟨z6, rfl, hz6.set (NoW.z hB6.out) (SetB.set3 _ _ _ _ _ _ _ _), ((hbW.out.setCell (p := ⟨w.heap.size + 2, 0, none⟩) (Nat.le_add_right _ _) _).setCell (p := ⟨w.heap.size + 2, 1, none⟩) (Nat.le_add_right _ _) _).setCell (p := ⟨w.heap.size + 2, 2, none⟩) (Nat.le_add_right _ _) _⟩

theorem isNone_small {z : Zv} {w : World} {n : Int} (h : ZR w z n) (hA : z.A.isNone = true) : z = ⟨n, none, 0, 0, false⟩ ∧ In64 n := by
  rcases h.cases3 with h | ⟨g, o, c, xs, rfl, -⟩ | ⟨g, o, c, xs, rfl, -⟩
  · exact h
  · simp at hA
  · simp at hA

set_option maxRecDepth 100000 in
set_option maxHeartbeats 2000000 in
theorem num_Add (z y : Zv) (n m : Int) (w : World) (hz : ZR w z n) (hy : ZR w y m) (hF : Fit n) (hG : Fit m) :
    Calls Try.prog 46 #[.agg #[.int .i64 z.x, .slice z.A z.l z.c, .bool z.g], .agg #[.int .i64 y.x, .slice y.A y.l y.c, .bool y.g]] w (PZ w (n + m)) := by
  have hu := Try.underlying45
  rcases hA : z.A.isNone with _ | _
  · exact num_Add1 z y n m w hz hy hF hG hA
  · rcases hB : y.A.isNone with _ | _
    · exact num_Add2 z y n m w hz hy hF hG hA hB
    · obtain ⟨e1, i1⟩ := isNone_small hz hA
      obtain ⟨e2, i2⟩ := isNone_small hy hB
      by_cases i3 : In64 (n + m)
      · subst e1
        subst e2
        have hw : IntKind.i64.wrap (n + m) = n + m := by rw [IntKind.wrap_i64]; unfold In64 at i3; omega
        have hd : (decide (n < n + m) == decide (0 < m)) = true := by simp; omega
        clear i1 i2 hz hy hA hB
        go_enter Try.func46, Try.ntmps46
        go_wp2_with fail
        refine bodyPost_ret (v := .agg #[.int .i64 (n + m), .slice none 0 0, .bool false]) (by simp [results, Try.results46, go_sem]) rfl ⟨⟨n + m, none, 0, 0, false⟩, rfl, ZR.small rfl i3, (((Below.refl _ _).alloc (Nat.le_refl _) _).alloc (by simp) _).alloc (by simp; omega) _⟩
      · refine num_Add3 z y n m w hz hy hF hG hA hB ?_
        rw [e1, e2]
        dsimp only
        unfold In64 at *
        by_cases h0 : 0 < m <;> by_cases h1 : n < wrap64 (n + m) <;> simp [h0, h1] <;> unfold wrap64 at h1 <;> omega
end Go.Proofs.Ytgoojlnfobjplaa