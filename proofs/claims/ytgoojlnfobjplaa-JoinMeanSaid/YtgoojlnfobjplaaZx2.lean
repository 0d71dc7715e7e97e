/- join.Mixed computes what is to be computed. -/
import Derived.Test.YtgoojlnfobjplaaZx1
import Derived.Test.YtgoojlnfobjplaaZr1
namespace Go.Proofs.Ytgoojlnfobjplaa
open Go.RowKit
set_option linter.unusedSimpArgs false
set_option linter.unusedVariables false
attribute [local go_sem] qn30 qe30

set_option maxRecDepth 100000 in
set_option maxHeartbeats 16000000 in
theorem join_Mixed (A B : Option Addr) (n c m d : Nat) (xs ys : List (Int × Int)) (w : World) (hx : Rats w A n c xs) (hy : Rats w B m d ys) :
    Calls Try.prog 7 #[.slice A n c, .slice B m d] w (PMix w (mixed xs ys)) := by
  have hu := Try.underlying24
  have hu2 := Try.underlying47
  have hO0 := Lib.hid (Own.one w 24 #[.int .i64 0, .int .i64 0])
  have hlx := Lib.hid hx.1
  have hly := Lib.hid hy.1
  go_enter Try.func7, Try.ntmps7
  go_wp2_with fail
  refine (num_AllValid A n c xs _ (hO0.out.rats hx)).mono ?_
  rintro e w1 ⟨rfl, hb⟩
  have hO1 := Lib.hid (hO0.out.call hb)
  clear hb
  by_cases V1 : AllVR xs
  · have hd1 : decide (AllVR xs) = true := by simpa using V1
    have V1 := Lib.hid V1
    go_wp2_with fail
    refine (num_AllValid B m d ys _ (hO1.out.rats hy)).mono ?_
    rintro e w1' ⟨rfl, hb⟩
    have hO2 := Lib.hid (hO1.out.call hb)
    clear hb
    by_cases V2 : AllVR ys
    · have hd2 : decide (AllVR ys) = true := by simpa using V2
      have V2 := Lib.hid V2
      by_cases L1 : 64 < n
      · have hmix := Lib.hid (show mixed xs ys = ((0, 0), false, 3) by have h1 := hlx.out; have h2 := V1.out; have h3 := V2.out; simp [mixed, h2, h3]; intro h; omega)
        obtain ⟨c0, c1, f0, f1⟩ := blk2 hO2.out.b0
        go_wp2_with fail
        refine bodyPost_ret (v := .tuple #[.agg #[.int .i64 0, .int .i64 0], .bool false, .int .i64 3]) (by simp [results, Try.results7, go_sem, c0, c1, f0, f1]) rfl ⟨by rw [hmix.out], hO2.out.set2 0 _ _ _ _⟩
      · by_cases L2 : 64 < m
        · have hmix := Lib.hid (show mixed xs ys = ((0, 0), false, 3) by have h1 := hly.out; have h2 := V1.out; have h3 := V2.out; simp [mixed, h2, h3]; intro h; omega)
          obtain ⟨c0, c1, f0, f1⟩ := blk2 hO2.out.b0
          go_wp2_with fail
          refine bodyPost_ret (v := .tuple #[.agg #[.int .i64 0, .int .i64 0], .bool false, .int .i64 3]) (by simp [results, Try.results7, go_sem, c0, c1, f0, f1]) rfl ⟨by rw [hmix.out], hO2.out.set2 0 _ _ _ _⟩
        · by_cases L3 : n = m
          · subst L3
            have hx2 := hO2.out.rats hx
            have hy2 := hO2.out.rats hy
            go_wp2_with fail
            refine (num_QInt 0 _ (by unfold In64; omega) 0 (by show (0 : Rat) = ((0 : Int) : Rat); rfl)).mono ?_
            rintro e w2' ⟨qa0, rfl, ha0, hb⟩
            have hO3 := Lib.hid (hO2.out.call hb)
            have hx2 := hx2.below hb (Nat.le_refl _)
            have hy2 := hy2.below hb (Nat.le_refl _)
            clear hb
            go_wp2_with fail
            refine (num_QInt 0 _ (by unfold In64; omega) 0 (by show (0 : Rat) = ((0 : Int) : Rat); rfl)).mono ?_
            rintro e w2 ⟨qb0, rfl, hb0, hb⟩
            have hO4 := Lib.hid (hO3.out.call hb)
            have ha0 := ha0.below hb (Nat.le_refl _)
            have hx2 := hx2.below hb (Nat.le_refl _)
            have hy2 := hy2.below hb (Nat.le_refl _)
            clear hb hO0 hO1 hO2 hO3
            have hOw := Lib.hid (Own.two w2 47 47 #[.int .i64 qa0.n.x, .slice qa0.n.A qa0.n.l qa0.n.c, .bool qa0.n.g, .int .i64 qa0.d.x, .slice qa0.d.A qa0.d.l qa0.d.c, .bool qa0.d.g] #[.int .i64 qb0.n.x, .slice qb0.n.A qb0.n.l qb0.n.c, .bool qb0.n.g, .int .i64 qb0.d.x, .slice qb0.d.A qb0.d.l qb0.d.c, .bool qb0.d.g])
            go_wp2_with fail
            go_loopw [42] (fun v42 wr => ∃ (k : Nat) (qa qb : Qv), k ≤ n ∧ v42 = .int .i64 k ∧ Hid (Own w2 [(47, #[.int .i64 qa.n.x, .slice qa.n.A qa.n.l qa.n.c, .bool qa.n.g, .int .i64 qa.d.x, .slice qa.d.A qa.d.l qa.d.c, .bool qa.d.g]), (47, #[.int .i64 qb.n.x, .slice qb.n.A qb.n.l qb.n.c, .bool qb.n.g, .int .i64 qb.d.x, .slice qb.d.A qb.d.l qb.d.c, .bool qb.d.g])] wr) ∧ QR wr qa (mixS ((xs.zip ys).take k)) ∧ QR wr qb (mixB ((xs.zip ys).take k)) ∧ Sz (81 * k + 1) (mixS ((xs.zip ys).take k)) ∧ Sz (81 * k + 1) (mixB ((xs.zip ys).take k))) (fun v _ => n - (intOf v).toNat)
            case atStart => exact ⟨0, qa0, qb0, Nat.zero_le _, rfl, hOw, hOw.out.qr ha0, hOw.out.qr hb0, Sz.zero, Sz.zero⟩
            case round =>
              clear hOw ha0 hb0
              obtain ⟨k, qa, qb, hk, rfl, hOw, hqa, hqb, hsa, hsb⟩ := hrel
              by_cases hlt : k < n
              · obtain ⟨gx, ox, x, rfl, hgx, hxk', -, -, hcx0, hcx1⟩ := (hOw.out.rats hx2).cell hlt
                have hxk := Lib.hid hxk'
                have hVx := Lib.hid (V1.out x (List.mem_of_getElem? hxk'))
                obtain ⟨gy, oy, y, rfl, -, hyk', -, -, -, -⟩ := hy2.cell (k := k) hlt
                have hyk := Lib.hid hyk'
                have hVy := Lib.hid (V2.out y (List.mem_of_getElem? hyk'))
                have hgy : gy < w2.heap.size := by
                  obtain ⟨g', o', x', e, hg, -⟩ := hy2.cell (k := k) hlt
                  injection e with e
                  injection e with e1 e2
                  omega
                clear hxk' hyk'
                by_cases hneg : x.1 < 0
                · have hzS : Hid (mixS ((xs.zip ys).take (k + 1)) = mixS ((xs.zip ys).take k) + (-ratOf x) * ratOf y) := by show _ = _; rw [zip_take hxk.out hyk.out, mixS_snoc, if_pos hneg]
                  have hzB : Hid (mixB ((xs.zip ys).take (k + 1)) = mixB ((xs.zip ys).take k) + (-ratOf x)) := by show _ = _; rw [zip_take hxk.out hyk.out, mixB_snoc, if_pos hneg]
                  have hkb : 81 * k + 1 ≤ 4000000 := by omega
                  generalize mixS ((xs.zip ys).take k) = S at *
                  generalize mixB ((xs.zip ys).take k) = T at *
                  go_upto_block 1 with (fail)
                  go_cut [50] (fun v50 wc => ∃ (qs qt : Qv), Hid (Own w2 [(47, #[.int .i64 qs.n.x, .slice qs.n.A qs.n.l qs.n.c, .bool qs.n.g, .int .i64 qs.d.x, .slice qs.d.A qs.d.l qs.d.c, .bool qs.d.g]), (47, #[.int .i64 qt.n.x, .slice qt.n.A qt.n.l qt.n.c, .bool qt.n.g, .int .i64 qt.d.x, .slice qt.d.A qt.d.l qt.d.c, .bool qt.d.g])] wc) ∧ QR wc qs (S + (-ratOf x) * ratOf y) ∧ QR wc qt (T + (-ratOf x)))
                  case first =>
                    go_wp2_with fail
                    refine (num_QOf x _ hVx).mono ?_
                    rintro e w4 ⟨q1, rfl, hq1, hb⟩
                    have hm := (Own.nil wr).more (.cells #[.int .i64 x.1, .int .i64 x.2] 24)
                    have hP4 := Lib.hid ((hOw.out.more (.cells #[.int .i64 x.1, .int .i64 x.2] 24)).call hb)
                    have hqa := (hm.qr hqa).below hb (Nat.le_refl _)
                    have hqb := (hm.qr hqb).below hb (Nat.le_refl _)
                    clear hb hm
                    go_wp2_with fail
                    refine (num_QNeg q1 (ratOf x) _ hq1 ((ratOf_sz hVx.out).fn (by omega))).mono ?_
                    rintro e w5 ⟨wq, rfl, hwq, hb⟩
                    have hP5 := Lib.hid (hP4.out.call hb)
                    have hqa := hqa.below hb (Nat.le_refl _)
                    have hqb := hqb.below hb (Nat.le_refl _)
                    clear hb hP4 hq1
                    go_upto_region 13 with (fail)
                    obtain ⟨w6, hw6⟩ : ∃ w6 : World, w6 = w5.alloc (.cells #[.int .i64 wq.n.x, .slice wq.n.A wq.n.l wq.n.c, .bool wq.n.g, .int .i64 wq.d.x, .slice wq.d.A wq.d.l wq.d.c, .bool wq.d.g] 47) := ⟨_, rfl⟩
                    have hbw : Below w5.heap.size w5 w6 := by rw [hw6]; exact (Below.refl _ _).alloc (Nat.le_refl _) _
                    have hP6 := hP5.out.call hbw
                    have hSt : Hid (St w2 qa qb wq w5.heap.size (some ⟨gy, oy, none⟩) n d ys w6) := ⟨hP6, by rw [hw6]; exact Blk.new _ _ _, hP6.rats hy2⟩
                    have hqa := hqa.below hbw (Nat.le_refl _)
                    have hqb := hqb.below hbw (Nat.le_refl _)
                    have hwq := hwq.below hbw (Nat.le_refl _)
                    rw [← hw6]
                    clear hbw hw6 hP6
                    have hs5 : w2.heap.size + 2 ≤ w5.heap.size := hP5.out.2.1
                    have ne1 : w5.heap.size ≠ w2.heap.size := by omega
                    have ne2 : w5.heap.size ≠ w2.heap.size + 1 := by omega
                    have ne3 : gy ≠ w2.heap.size := by omega
                    have ne4 : gy ≠ w2.heap.size + 1 := by omega
                    have ne1' : w2.heap.size ≠ w5.heap.size := by omega
                    have ne2' : w2.heap.size + 1 ≠ w5.heap.size := by omega
                    have ne3' : w2.heap.size ≠ gy := by omega
                    have ne4' : w2.heap.size + 1 ≠ gy := by omega
                    have hkm : k < n := hlt
                    have hS0 : (fun w' => (w'.cell? ⟨w2.heap.size, 0, none⟩ = some (.int .i64 qa.n.x) ∧ w'.cell? ⟨w2.heap.size, 1, none⟩ = some (.slice qa.n.A qa.n.l qa.n.c) ∧ w'.cell? ⟨w2.heap.size, 2, none⟩ = some (.bool qa.n.g) ∧ w'.cell? ⟨w2.heap.size, 3, none⟩ = some (.int .i64 qa.d.x) ∧ w'.cell? ⟨w2.heap.size, 4, none⟩ = some (.slice qa.d.A qa.d.l qa.d.c) ∧ w'.cell? ⟨w2.heap.size, 5, none⟩ = some (.bool qa.d.g)) ∧ (w'.cell? ⟨w2.heap.size + 1, 0, none⟩ = some (.int .i64 qb.n.x) ∧ w'.cell? ⟨w2.heap.size + 1, 1, none⟩ = some (.slice qb.n.A qb.n.l qb.n.c) ∧ w'.cell? ⟨w2.heap.size + 1, 2, none⟩ = some (.bool qb.n.g) ∧ w'.cell? ⟨w2.heap.size + 1, 3, none⟩ = some (.int .i64 qb.d.x) ∧ w'.cell? ⟨w2.heap.size + 1, 4, none⟩ = some (.slice qb.d.A qb.d.l qb.d.c) ∧ w'.cell? ⟨w2.heap.size + 1, 5, none⟩ = some (.bool qb.d.g)) ∧ w'.cell? ⟨w5.heap.size, 0, none⟩ = some (.int .i64 wq.n.x) ∧ w'.cell? ⟨w5.heap.size, 1, none⟩ = some (.slice wq.n.A wq.n.l wq.n.c) ∧ w'.cell? ⟨w5.heap.size, 2, none⟩ = some (.bool wq.n.g) ∧ w'.cell? ⟨w5.heap.size, 3, none⟩ = some (.int .i64 wq.d.x) ∧ w'.cell? ⟨w5.heap.size, 4, none⟩ = some (.slice wq.d.A wq.d.l wq.d.c) ∧ w'.cell? ⟨w5.heap.size, 5, none⟩ = some (.bool wq.d.g) ∧ w'.cell? ⟨gy, oy + k * 2, none⟩ = some (.int .i64 y.1) ∧ w'.cell? ⟨gy, oy + k * 2 + 1, none⟩ = some (.int .i64 y.2)) w6.drew := ⟨keep6 hSt.out.1.drew, (keep66 hSt.out.1.drew).2, hSt.out.drew.cells hyk⟩
                    have hqa := hqa.drew
                    have hqb := hqb.drew
                    have hwq := hwq.drew
                    go_upto_region 13 with (fail)
                    refine wp_region_K (S := fun w' => (w'.cell? ⟨w2.heap.size, 0, none⟩ = some (.int .i64 qa.n.x) ∧ w'.cell? ⟨w2.heap.size, 1, none⟩ = some (.slice qa.n.A qa.n.l qa.n.c) ∧ w'.cell? ⟨w2.heap.size, 2, none⟩ = some (.bool qa.n.g) ∧ w'.cell? ⟨w2.heap.size, 3, none⟩ = some (.int .i64 qa.d.x) ∧ w'.cell? ⟨w2.heap.size, 4, none⟩ = some (.slice qa.d.A qa.d.l qa.d.c) ∧ w'.cell? ⟨w2.heap.size, 5, none⟩ = some (.bool qa.d.g)) ∧ (w'.cell? ⟨w2.heap.size + 1, 0, none⟩ = some (.int .i64 qb.n.x) ∧ w'.cell? ⟨w2.heap.size + 1, 1, none⟩ = some (.slice qb.n.A qb.n.l qb.n.c) ∧ w'.cell? ⟨w2.heap.size + 1, 2, none⟩ = some (.bool qb.n.g) ∧ w'.cell? ⟨w2.heap.size + 1, 3, none⟩ = some (.int .i64 qb.d.x) ∧ w'.cell? ⟨w2.heap.size + 1, 4, none⟩ = some (.slice qb.d.A qb.d.l qb.d.c) ∧ w'.cell? ⟨w2.heap.size + 1, 5, none⟩ = some (.bool qb.d.g)) ∧ w'.cell? ⟨w5.heap.size, 0, none⟩ = some (.int .i64 wq.n.x) ∧ w'.cell? ⟨w5.heap.size, 1, none⟩ = some (.slice wq.n.A wq.n.l wq.n.c) ∧ w'.cell? ⟨w5.heap.size, 2, none⟩ = some (.bool wq.n.g) ∧ w'.cell? ⟨w5.heap.size, 3, none⟩ = some (.int .i64 wq.d.x) ∧ w'.cell? ⟨w5.heap.size, 4, none⟩ = some (.slice wq.d.A wq.d.l wq.d.c) ∧ w'.cell? ⟨w5.heap.size, 5, none⟩ = some (.bool wq.d.g) ∧ w'.cell? ⟨gy, oy + k * 2, none⟩ = some (.int .i64 y.1) ∧ w'.cell? ⟨gy, oy + k * 2 + 1, none⟩ = some (.int .i64 y.2)) (K := [12, 13]) (by kernel_rfl) ?_
                    refine AnyK.take (i := 0) (v := .agg #[.int .i64 qa.n.x, .slice qa.n.A qa.n.l qa.n.c, .bool qa.n.g, .int .i64 qa.d.x, .slice qa.d.A qa.d.l qa.d.c, .bool qa.d.g]) rfl (by kernel_rfl) (by kernel_rfl) (by kernel_rfl) (by kernel_rfl) (by kernel_rfl) (by kernel_rfl) (fun _ _ _ h => h) (Or.inl ⟨by rfl, ?_⟩) hS0 ?_
                    · rintro w' ⟨⟨a0, a1, a2, a3, a4, a5⟩, ⟨b0, b1, b2, b3, b4, b5⟩, c0, c1, c2, c3, c4, c5, d0, d1⟩
                      go_simp
                    (try simp only [Act.put, List.setIfInBounds_toArray, List.set_cons_zero, List.set_cons_succ])
                    refine AnyK.take (i := 1) (v := .agg #[.int .i64 wq.n.x, .slice wq.n.A wq.n.l wq.n.c, .bool wq.n.g, .int .i64 wq.d.x, .slice wq.d.A wq.d.l wq.d.c, .bool wq.d.g]) rfl (by kernel_rfl) (by kernel_rfl) (by kernel_rfl) (by kernel_rfl) (by kernel_rfl) (by kernel_rfl) (fun _ _ _ h => h) (Or.inl ⟨by rfl, ?_⟩) hS0 ?_
                    · rintro w' ⟨⟨a0, a1, a2, a3, a4, a5⟩, ⟨b0, b1, b2, b3, b4, b5⟩, c0, c1, c2, c3, c4, c5, d0, d1⟩
                      go_simp
                    (try simp only [Act.put, List.setIfInBounds_toArray, List.set_cons_zero, List.set_cons_succ])
                    refine AnyK.take (i := 2) (v := .slice (some ⟨gy, oy, none⟩) n d) rfl (by kernel_rfl) (by kernel_rfl) (by kernel_rfl) (by kernel_rfl) (by kernel_rfl) (by kernel_rfl) (fun _ _ _ h => h) (Or.inl ⟨by rfl, ?_⟩) hS0 ?_
                    · rintro w' ⟨⟨a0, a1, a2, a3, a4, a5⟩, ⟨b0, b1, b2, b3, b4, b5⟩, c0, c1, c2, c3, c4, c5, d0, d1⟩
                      go_simp
                    (try simp only [Act.put, List.setIfInBounds_toArray, List.set_cons_zero, List.set_cons_succ])
                    refine AnyK.take (i := 3) (v := .int .i64 k) rfl (by kernel_rfl) (by kernel_rfl) (by kernel_rfl) (by kernel_rfl) (by kernel_rfl) (by kernel_rfl) (fun _ _ _ h => h) (Or.inl ⟨by rfl, ?_⟩) hS0 ?_
                    · rintro w' ⟨⟨a0, a1, a2, a3, a4, a5⟩, ⟨b0, b1, b2, b3, b4, b5⟩, c0, c1, c2, c3, c4, c5, d0, d1⟩
                      go_simp
                    (try simp only [Act.put, List.setIfInBounds_toArray, List.set_cons_zero, List.set_cons_succ])
                    refine AnyK.take (i := 4) (v := .pointer (some ⟨gy, oy + k * 2, none⟩)) rfl (by kernel_rfl) (by kernel_rfl) (by kernel_rfl) (by kernel_rfl) (by kernel_rfl) (by kernel_rfl) (fun _ _ _ h => h) (Or.inl ⟨by rfl, ?_⟩) hS0 ?_
                    · rintro w' ⟨⟨a0, a1, a2, a3, a4, a5⟩, ⟨b0, b1, b2, b3, b4, b5⟩, c0, c1, c2, c3, c4, c5, d0, d1⟩
                      go_simp
                    (try simp only [Act.put, List.setIfInBounds_toArray, List.set_cons_zero, List.set_cons_succ])
                    refine AnyK.take (i := 5) (v := .agg #[.int .i64 y.1, .int .i64 y.2]) rfl (by kernel_rfl) (by kernel_rfl) (by kernel_rfl) (by kernel_rfl) (by kernel_rfl) (by kernel_rfl) (fun _ _ _ h => h) (Or.inl ⟨by rfl, ?_⟩) hS0 ?_
                    · rintro w' ⟨⟨a0, a1, a2, a3, a4, a5⟩, ⟨b0, b1, b2, b3, b4, b5⟩, c0, c1, c2, c3, c4, c5, d0, d1⟩
                      go_simp
                    (try simp only [Act.put, List.setIfInBounds_toArray, List.set_cons_zero, List.set_cons_succ])
                    refine AnyK.take (i := 9) (v := .agg #[.int .i64 qb.n.x, .slice qb.n.A qb.n.l qb.n.c, .bool qb.n.g, .int .i64 qb.d.x, .slice qb.d.A qb.d.l qb.d.c, .bool qb.d.g]) rfl (by kernel_rfl) (by kernel_rfl) (by kernel_rfl) (by kernel_rfl) (by kernel_rfl) (by kernel_rfl) (fun _ _ _ h => h) (Or.inl ⟨by rfl, ?_⟩) hS0 ?_
                    · rintro w' ⟨⟨a0, a1, a2, a3, a4, a5⟩, ⟨b0, b1, b2, b3, b4, b5⟩, c0, c1, c2, c3, c4, c5, d0, d1⟩
                      go_simp
                    (try simp only [Act.put, List.setIfInBounds_toArray, List.set_cons_zero, List.set_cons_succ])
                    refine AnyK.take (i := 10) (v := .agg #[.int .i64 wq.n.x, .slice wq.n.A wq.n.l wq.n.c, .bool wq.n.g, .int .i64 wq.d.x, .slice wq.d.A wq.d.l wq.d.c, .bool wq.d.g]) rfl (by kernel_rfl) (by kernel_rfl) (by kernel_rfl) (by kernel_rfl) (by kernel_rfl) (by kernel_rfl) (fun _ _ _ h => h) (Or.inl ⟨by rfl, ?_⟩) hS0 ?_
                    · rintro w' ⟨⟨a0, a1, a2, a3, a4, a5⟩, ⟨b0, b1, b2, b3, b4, b5⟩, c0, c1, c2, c3, c4, c5, d0, d1⟩
                      go_simp
                    (try simp only [Act.put, List.setIfInBounds_toArray, List.set_cons_zero, List.set_cons_succ])
                    have hS1 := Lib.hid hSt.out.drew
                    refine AnyK.one (i := 6) (by kernel_rfl) rfl (fun K' hK => ?_)
                    go_simp
                    refine (num_QOf y _ hVy).mono ?_
                    rintro e v1 ⟨qy, rfl, hqy, hb⟩
                    have hS2 := Lib.hid (hS1.out.call hb)
                    have hqa1 := hqa.below hb (Nat.le_refl _)
                    have hqb1 := hqb.below hb (Nat.le_refl _)
                    have hwq1 := hwq.below hb (Nat.le_refl _)
                    clear hb
                    refine hK.out _ _ (fun _ => ⟨keep6 hS2.out.1, (keep66 hS2.out.1).2, hS2.out.cells hyk⟩) ?_
                    clear hK
                    (try simp only [Act.put, List.setIfInBounds_toArray, List.set_cons_zero, List.set_cons_succ])
                    refine AnyK.one (i := 7) (by kernel_rfl) rfl (fun K' hK => ?_)
                    go_simp
                    refine (num_QMul wq qy (-ratOf x) (ratOf y) _ 40 40 hwq1 hqy (ratOf_sz hVx.out).neg (ratOf_sz hVy.out) (by omega)).mono ?_
                    rintro e v2 ⟨qm, rfl, hqm, hb⟩
                    have hS3 := Lib.hid (hS2.out.call hb)
                    have hqa2 := hqa1.below hb (Nat.le_refl _)
                    have hqb2 := hqb1.below hb (Nat.le_refl _)
                    have hwq2 := hwq1.below hb (Nat.le_refl _)
                    clear hb
                    refine hK.out _ _ (fun _ => ⟨keep6 hS3.out.1, (keep66 hS3.out.1).2, hS3.out.cells hyk⟩) ?_
                    clear hK
                    (try simp only [Act.put, List.setIfInBounds_toArray, List.set_cons_zero, List.set_cons_succ])
                    refine AnyK.one (i := 8) (by kernel_rfl) rfl (fun K' hK => ?_)
                    go_simp
                    refine (num_QAdd qa qm S _ _ (81 * k + 1) 80 hqa2 hqm hsa ((ratOf_sz hVx.out).neg.mul (ratOf_sz hVy.out)) (by omega)).mono ?_
                    rintro e v3 ⟨qs, rfl, hqs, hb⟩
                    have hS4 := Lib.hid (hS3.out.call hb)
                    have hqb3 := hqb2.below hb (Nat.le_refl _)
                    have hwq3 := hwq2.below hb (Nat.le_refl _)
                    clear hb
                    refine hK.out _ _ (fun _ => ⟨keep6 hS4.out.1, (keep66 hS4.out.1).2, hS4.out.cells hyk⟩) ?_
                    clear hK
                    (try simp only [Act.put, List.setIfInBounds_toArray, List.set_cons_zero, List.set_cons_succ])
                    refine AnyK.one (i := 11) (by kernel_rfl) rfl (fun K' hK => ?_)
                    go_simp
                    refine (num_QAdd qb wq T _ _ (81 * k + 1) 40 hqb3 hwq3 hsb (ratOf_sz hVx.out).neg (by omega)).mono ?_
                    rintro e v4 ⟨qt, rfl, hqt, hb⟩
                    have hS5 := Lib.hid (hS4.out.call hb)
                    have hqs4 := hqs.below hb (Nat.le_refl _)
                    clear hb
                    refine hK.out _ _ (fun _ => ⟨keep6 hS5.out.1, (keep66 hS5.out.1).2, hS5.out.cells hyk⟩) ?_
                    clear hK
                    (try simp only [Act.put, List.setIfInBounds_toArray, List.set_cons_zero, List.set_cons_succ])
                    obtain ⟨⟨a0, a1, a2, a3, a4, a5⟩, f0, f1, f2, f3, f4, f5⟩ := blk6 hS5.out.1.b0
                    obtain ⟨⟨b0, b1, b2, b3, b4, b5⟩, f6, f7, f8, f9, f10, f11⟩ := blk6 hS5.out.1.b1
                    refine AnyK.one (i := 12) (by kernel_rfl) rfl (fun K' hK => ?_)
                    go_simp
                    refine hK.out _ _ (fun h => absurd h (Bool.eq_false_iff.1 (by kernel_rfl))) ?_
                    clear hK
                    (try simp only [Act.put, List.setIfInBounds_toArray, List.set_cons_zero, List.set_cons_succ])
                    refine AnyK.one (i := 13) (by kernel_rfl) rfl (fun K' hK => ?_)
                    go_simp
                    refine hK.out _ _ (fun h => absurd h (Bool.eq_false_iff.1 (by kernel_rfl))) ?_
                    clear hK
                    (try simp only [Act.put, List.setIfInBounds_toArray, List.set_cons_zero, List.set_cons_succ])
                    refine AnyK.done (by kernel_rfl) ?_ _
                    go_wp2_with fail
                    go_meet
                    obtain ⟨r1, r2, r3⟩ := twoput6 hS5.out.1 hqs4 hqt rfl
                    exact ⟨qs, qt, r1, r2, r3⟩
                  case rest =>
                    obtain ⟨qs, qt, hOn, hqs, hqt⟩ := hcut
                    have hVV := Lib.hid (And.intro hVx.out hVy.out)
                    go_wp2_with fail
                    go_roundw
                    case rel => exact ⟨k + 1, qs, qt, by omega, by go_num, hOn, by rw [hzS.out]; exact hqs, by rw [hzB.out]; exact hqt, by rw [hzS.out]; exact (hsa.add ((ratOf_sz hVx.out).neg.mul (ratOf_sz hVy.out))).mono (by omega), by rw [hzB.out]; exact (hsb.add (ratOf_sz hVx.out).neg).mono (by omega)⟩
                    case measure => simp [intOf]; omega
                · have hz := zip_take hxk.out hyk.out
                  have hz1 : Hid (mixS ((xs.zip ys).take (k + 1)) = mixS ((xs.zip ys).take k)) := by show _ = _; rw [hz, mixS_snoc, if_neg hneg]
                  have hz2 : Hid (mixB ((xs.zip ys).take (k + 1)) = mixB ((xs.zip ys).take k)) := by show _ = _; rw [hz, mixB_snoc, if_neg hneg]
                  clear hz
                  go_wp2_with fail
                  go_roundw
                  case rel => exact ⟨k + 1, qa, qb, by omega, by go_num, Lib.hid (hOw.out.more _), by rw [hz1.out]; exact (Own.qr ((Own.nil wr).more _) hqa), by rw [hz2.out]; exact (Own.qr ((Own.nil wr).more _) hqb), by rw [hz1.out]; exact hsa.mono (by omega), by rw [hz2.out]; exact hsb.mono (by omega)⟩
                  case measure => simp [intOf]; omega
              · have hkn : k = n := by omega
                have htk : (xs.zip ys).take k = xs.zip ys := List.take_of_length_le (by rw [List.length_zip]; have h1 := hlx.out; have h2 := hly.out; omega)
                have hkb : 81 * k + 1 ≤ 4000000 := by omega
                rw [htk] at hqa hqb hsa hsb
                clear htk
                subst hkn
                have hbase : Hid (mixed xs ys = if mixB (xs.zip ys) = 0 then ((0, 0), false, 0)
                  else if -1000000000000 ≤ (mixS (xs.zip ys) / mixB (xs.zip ys)).num ∧ (mixS (xs.zip ys) / mixB (xs.zip ys)).num ≤ 1000000000000 ∧ ((mixS (xs.zip ys) / mixB (xs.zip ys)).den : Int) ≤ 1000000000000 then (((mixS (xs.zip ys) / mixB (xs.zip ys)).num, ((mixS (xs.zip ys) / mixB (xs.zip ys)).den : Int)), true, 0)
                  else ((0, 0), false, 3)) := by
                  show _ = _
                  have h1 := hlx.out
                  have h0 := hly.out
                  unfold mixed
                  rw [if_neg (by simp [V1.out, V2.out]), if_neg (by omega), if_neg (by omega)]
                generalize mixS (xs.zip ys) = S at *
                generalize mixB (xs.zip ys) = T at *
                obtain ⟨g0, g1, g2, g3, g4, g5⟩ := (keep66 hOw.out).2
                go_wp2_with fail
                refine (num_IsZero qb T _ hqb).mono ?_
                rintro e w5 ⟨rfl, hb⟩
                have hO5 := Lib.hid (hOw.out.call hb)
                have hqa := hqa.below hb (Nat.le_refl _)
                have hqb := hqb.below hb (Nat.le_refl _)
                clear hb g0 g1 g2 g3 g4 g5
                have hOR := Lib.hid (hO4.out.call hO5.out.1)
                by_cases hz : T.num = 0
                · have hd3 : decide (T.num = 0) = true := by simpa using hz
                  have hT := Lib.hid (Rat.num_eq_zero.1 hz)
                  clear hz
                  have hmix := Lib.hid (show mixed xs ys = ((0, 0), false, 0) by rw [hbase.out, if_pos hT.out])
                  obtain ⟨c0, c1, f0, f1⟩ := blk2 hOR.out.b0
                  go_wp2_with fail
                  refine bodyPost_ret (v := .tuple #[.agg #[.int .i64 0, .int .i64 0], .bool false, .int .i64 0]) (by simp [results, Try.results7, go_sem, c0, c1, f0, f1]) rfl ⟨by rw [hmix.out], hOR.out.set2 0 _ _ _ _⟩
                · have hd3 : decide (T.num = 0) = false := by simpa using hz
                  have hT : Hid (T ≠ 0) := fun h => hz (Rat.num_eq_zero.2 h)
                  clear hz
                  obtain ⟨⟨g0, g1, g2, g3, g4, g5⟩, g6, g7, g8, g9, g10, g11⟩ := keep66 hO5.out
                  go_wp2_with fail
                  refine (num_QDiv qa qb S T _ _ _ hqa hqb hsa hsb (by omega) hT).mono ?_
                  rintro e w6 ⟨q, rfl, hq, hb⟩
                  have hOR6 := Lib.hid (hOR.out.call hb)
                  clear hb g0 g1 g2 g3 g4 g5 g6 g7 g8 g9 g10 g11
                  go_wp2_with fail
                  refine (num_QOut q (S / T) _ hq).mono ?_
                  rintro e w7 ⟨hb, hcase⟩
                  have hOR7 := Lib.hid (hOR6.out.call hb)
                  clear hb
                  obtain ⟨c0, c1, f0, f1⟩ := blk2 hOR7.out.b0
                  rcases hcase with ⟨o1, o2, o3, rfl⟩ | ⟨o1, rfl⟩
                  · have hmix := Lib.hid (show mixed xs ys = (((S / T).num, ((S / T).den : Int)), true, 0) by rw [hbase.out, if_neg hT.out, if_pos ⟨o1, o2, o3⟩])
                    have hOR8 := Lib.hid (hOR7.out.more (.cells #[.int .i64 (S / T).num, .int .i64 (S / T).den] 24))
                    clear o1 o2 o3 c0 c1 f0 f1
                    obtain ⟨c0, c1, f0, f1⟩ := blk2 hOR8.out.b0
                    go_wp2_with fail
                    refine bodyPost_ret (v := .tuple #[.agg #[.int .i64 (S / T).num, .int .i64 (S / T).den], .bool true, .int .i64 0]) (by simp [results, Try.results7, go_sem, c0, c1, f0, f1]) rfl ⟨by rw [hmix.out], hOR8.out.set2 0 _ _ _ _⟩
                  · have hmix := Lib.hid (show mixed xs ys = ((0, 0), false, 3) by rw [hbase.out, if_neg hT.out, if_neg o1])
                    have hOR8 := Lib.hid (hOR7.out.more (.cells #[.int .i64 0, .int .i64 0] 24))
                    clear o1 c0 c1 f0 f1
                    obtain ⟨c0, c1, f0, f1⟩ := blk2 hOR8.out.b0
                    go_wp2_with fail
                    refine bodyPost_ret (v := .tuple #[.agg #[.int .i64 0, .int .i64 0], .bool false, .int .i64 3]) (by simp [results, Try.results7, go_sem, c0, c1, f0, f1]) rfl ⟨by rw [hmix.out], hOR8.out.set2 0 _ _ _ _⟩
          · have L4 : ((n : Int) != m) = true := by simp; omega
            have hmix := Lib.hid (show mixed xs ys = ((0, 0), false, 8) by have h1 := hlx.out; have h0 := hly.out; have h2 := V1.out; have h3 := V2.out; unfold mixed; rw [if_neg (by simp [h2, h3]), if_neg (by omega), if_pos (by omega)])
            obtain ⟨c0, c1, f0, f1⟩ := blk2 hO2.out.b0
            go_wp2_with fail
            refine bodyPost_ret (v := .tuple #[.agg #[.int .i64 0, .int .i64 0], .bool false, .int .i64 8]) (by simp [results, Try.results7, go_sem, c0, c1, f0, f1]) rfl ⟨by rw [hmix.out], hO2.out.set2 0 _ _ _ _⟩
    · have hd2 : decide (AllVR ys) = false := by simpa using V2
      have hmix := Lib.hid (show mixed xs ys = ((0, 0), false, 1) by unfold mixed; rw [if_pos (by simp [V2])])
      obtain ⟨c0, c1, f0, f1⟩ := blk2 hO2.out.b0
      go_wp2_with fail
      refine bodyPost_ret (v := .tuple #[.agg #[.int .i64 0, .int .i64 0], .bool false, .int .i64 1]) (by simp [results, Try.results7, go_sem, c0, c1, f0, f1]) rfl ⟨by rw [hmix.out], hO2.out.set2 0 _ _ _ _⟩
  · have hd1 : decide (AllVR xs) = false := by simpa using V1
    have hmix := Lib.hid (show mixed xs ys = ((0, 0), false, 1) by unfold mixed; rw [if_pos (by simp [V1])])
    obtain ⟨c0, c1, f0, f1⟩ := blk2 hO1.out.b0
    go_wp2_with fail
    refine bodyPost_ret (v := .tuple #[.agg #[.int .i64 0, .int .i64 0], .bool false, .int .i64 1]) (by simp [results, Try.results7, go_sem, c0, c1, f0, f1]) rfl ⟨by rw [hmix.out], hO1.out.set2 0 _ _ _ _⟩

end Go.Proofs.Ytgoojlnfobjplaa
