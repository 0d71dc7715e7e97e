/- isoclineref11.Mixed computes what is to be computed. -/
import Derived.Test.YtgoojlnfobjplaaRs
import Derived.Test.YtgoojlnfobjplaaZx1
import Derived.Test.YtgoojlnfobjplaaZr1
import Derived.Deep.CutRange
namespace Go.Proofs.Ytgoojlnfobjplaa
open Go.RowKit
set_option linter.unusedSimpArgs false
set_option linter.unusedVariables false
attribute [local go_sem] qn30 qe30

/-- the state in a round: the two sums, the flows, the values -/
def StR (w2 : World) (qa qb : Qw) (A B : Option Addr) (n c d : Nat) (xs ys : List (Int × Int)) (wr : World) : Prop :=
  Own w2 [(34, #[.slice qa.n.A qa.n.l qa.n.c, .bool qa.n.g, .slice qa.d.A qa.d.l qa.d.c, .bool qa.d.g]), (34, #[.slice qb.n.A qb.n.l qb.n.c, .bool qb.n.g, .slice qb.d.A qb.d.l qb.d.c, .bool qb.d.g])] wr ∧ Rats wr A n c xs ∧ Rats wr B n d ys
theorem StR.call {w2 : World} {qa qb : Qw} {A B n c d xs ys} {wr wr' : World} (h : StR w2 qa qb A B n c d xs ys wr) (hb : Below wr.heap.size wr wr') : StR w2 qa qb A B n c d xs ys wr' :=
  ⟨h.1.call hb, h.2.1.below hb (Nat.le_refl _), h.2.2.below hb (Nat.le_refl _)⟩
theorem StR.drew {w2 : World} {qa qb : Qw} {A B n c d xs ys} {wr : World} (h : StR w2 qa qb A B n c d xs ys wr) : StR w2 qa qb A B n c d xs ys wr.drew :=
  ⟨h.1.drew, h.2.1.drew, h.2.2.drew⟩
theorem Rats.at {w : World} {g o n c k : Nat} {xs : List (Int × Int)} {x : Int × Int} (h : Rats w (some ⟨g, o, none⟩) n c xs) (hx : Hid (xs[k]? = some x)) : w.cell? ⟨g, o + k * 2, none⟩ = some (.int .i64 x.1) ∧ w.cell? ⟨g, o + k * 2 + 1, none⟩ = some (.int .i64 x.2) := by
  obtain ⟨g', o', x', e, hg, hx', -, -, c0, c1⟩ := h.cell (k := k) (by have := (List.getElem?_eq_some_iff.1 hx.out).1; have := h.1; omega)
  injection e with e
  injection e with e1 e2
  subst e1 e2
  rw [hx.out] at hx'
  injection hx' with hx'
  subst hx'
  exact ⟨c0, c1⟩
theorem StR.cells {w2 : World} {qa qb : Qw} {gx ox gy oy n c d k : Nat} {xs ys} {w1 : World} {x y : Int × Int} (h : StR w2 qa qb (some ⟨gx, ox, none⟩) (some ⟨gy, oy, none⟩) n c d xs ys w1) (hx : Hid (xs[k]? = some x)) (hy : Hid (ys[k]? = some y)) : ((w1.cell? ⟨w2.heap.size, 0, none⟩ = some (.slice qa.n.A qa.n.l qa.n.c) ∧ w1.cell? ⟨w2.heap.size, 1, none⟩ = some (.bool qa.n.g) ∧ w1.cell? ⟨w2.heap.size, 2, none⟩ = some (.slice qa.d.A qa.d.l qa.d.c) ∧ w1.cell? ⟨w2.heap.size, 3, none⟩ = some (.bool qa.d.g)) ∧ (w1.cell? ⟨w2.heap.size + 1, 0, none⟩ = some (.slice qb.n.A qb.n.l qb.n.c) ∧ w1.cell? ⟨w2.heap.size + 1, 1, none⟩ = some (.bool qb.n.g) ∧ w1.cell? ⟨w2.heap.size + 1, 2, none⟩ = some (.slice qb.d.A qb.d.l qb.d.c) ∧ w1.cell? ⟨w2.heap.size + 1, 3, none⟩ = some (.bool qb.d.g))) ∧ (w1.cell? ⟨gx, ox + k * 2, none⟩ = some (.int .i64 x.1) ∧ w1.cell? ⟨gx, ox + k * 2 + 1, none⟩ = some (.int .i64 x.2)) ∧ (w1.cell? ⟨gy, oy + k * 2, none⟩ = some (.int .i64 y.1) ∧ w1.cell? ⟨gy, oy + k * 2 + 1, none⟩ = some (.int .i64 y.2)) :=
  ⟨keep44 h.1, h.2.1.at hx, h.2.2.at hy⟩
theorem Blk.setW4 {w : World} {g : Nat} {t : TypeId} {a b c d : Value} (h : Blk w g t #[a, b, c, d]) (u v x y : Value) : Blk ((((w.setCell ⟨g, 0, none⟩ u).setCell ⟨g, 1, none⟩ v).setCell ⟨g, 2, none⟩ x).setCell ⟨g, 3, none⟩ y) g t #[u, v, x, y] := by
  unfold Blk at h ⊢
  simp [World.setCell, Array.getElem?_modify, h]
theorem heap_set4 (w : World) (g : Nat) (u1 u2 u3 u4 : Value) (k : Nat) (hk : k ≠ g) : ((((w.setCell ⟨g, 0, none⟩ u1).setCell ⟨g, 1, none⟩ u2).setCell ⟨g, 2, none⟩ u3).setCell ⟨g, 3, none⟩ u4).heap[k]? = w.heap[k]? :=
  (Below.heap_setCell _ ⟨g, 3, none⟩ u4 k hk).trans ((Below.heap_setCell _ ⟨g, 2, none⟩ u3 k hk).trans ((Below.heap_setCell _ ⟨g, 1, none⟩ u2 k hk).trans (Below.heap_setCell _ ⟨g, 0, none⟩ u1 k hk)))
theorem Own.put4 {w w1 : World} {bs : List (TypeId × Array Value)} (h : Own w bs w1) (i : Nat) {t : TypeId} {a b c d : Value} (hi : bs[i]? = some (t, #[a, b, c, d])) (u1 u2 u3 u4 : Value) :
    Own w (bs.set i (t, #[u1, u2, u3, u4])) ((((w1.setCell ⟨w.heap.size + i, 0, none⟩ u1).setCell ⟨w.heap.size + i, 1, none⟩ u2).setCell ⟨w.heap.size + i, 2, none⟩ u3).setCell ⟨w.heap.size + i, 3, none⟩ u4) :=
  h.updW i t _ (List.getElem?_eq_some_iff.1 hi).1 (h.setW4 i 0 1 2 3 u1 u2 u3 u4) (SetB.set4 w1 (w.heap.size + i) 0 1 2 3 u1 u2 u3 u4).1 (heap_set4 _ _ _ _ _ _) (Blk.setW4 (h.2.2 i t _ hi) u1 u2 u3 u4)
/-- the first sum is put in its box -/
theorem put4a {w2 w3 : World} {qa qb qs : Qw} {t : TypeId} (hO : Own w2 [(t, #[.slice qa.n.A qa.n.l qa.n.c, .bool qa.n.g, .slice qa.d.A qa.d.l qa.d.c, .bool qa.d.g]), (t, #[.slice qb.n.A qb.n.l qb.n.c, .bool qb.n.g, .slice qb.d.A qb.d.l qb.d.c, .bool qb.d.g])] w3) {w' : World}
    (hw : w' = ((((w3.setCell ⟨w2.heap.size, 0, none⟩ (.slice qs.n.A qs.n.l qs.n.c)).setCell ⟨w2.heap.size, 1, none⟩ (.bool qs.n.g)).setCell ⟨w2.heap.size, 2, none⟩ (.slice qs.d.A qs.d.l qs.d.c)).setCell ⟨w2.heap.size, 3, none⟩ (.bool qs.d.g))) :
    Own w2 [(t, #[.slice qs.n.A qs.n.l qs.n.c, .bool qs.n.g, .slice qs.d.A qs.d.l qs.d.c, .bool qs.d.g]), (t, #[.slice qb.n.A qb.n.l qb.n.c, .bool qb.n.g, .slice qb.d.A qb.d.l qb.d.c, .bool qb.d.g])] w' ∧ ∀ q r, QW w3 q r → QW w' q r := by
  subst hw
  have p := hO.put4 0 rfl (.slice qs.n.A qs.n.l qs.n.c) (.bool qs.n.g) (.slice qs.d.A qs.d.l qs.d.c) (.bool qs.d.g)
  rw [Nat.add_zero] at p
  exact ⟨p, fun q r h => h.set (NoW.w4 hO.b0) (SetB.set4 _ _ _ _ _ _ _ _ _ _)⟩
/-- the second sum is put in its box -/
theorem put4b {w2 w3 : World} {qa qb qs : Qw} {t : TypeId} (hO : Own w2 [(t, #[.slice qa.n.A qa.n.l qa.n.c, .bool qa.n.g, .slice qa.d.A qa.d.l qa.d.c, .bool qa.d.g]), (t, #[.slice qb.n.A qb.n.l qb.n.c, .bool qb.n.g, .slice qb.d.A qb.d.l qb.d.c, .bool qb.d.g])] w3) {w' : World}
    (hw : w' = ((((w3.setCell ⟨w2.heap.size + 1, 0, none⟩ (.slice qs.n.A qs.n.l qs.n.c)).setCell ⟨w2.heap.size + 1, 1, none⟩ (.bool qs.n.g)).setCell ⟨w2.heap.size + 1, 2, none⟩ (.slice qs.d.A qs.d.l qs.d.c)).setCell ⟨w2.heap.size + 1, 3, none⟩ (.bool qs.d.g))) :
    Own w2 [(t, #[.slice qa.n.A qa.n.l qa.n.c, .bool qa.n.g, .slice qa.d.A qa.d.l qa.d.c, .bool qa.d.g]), (t, #[.slice qs.n.A qs.n.l qs.n.c, .bool qs.n.g, .slice qs.d.A qs.d.l qs.d.c, .bool qs.d.g])] w' ∧ ∀ q r, QW w3 q r → QW w' q r := by
  subst hw
  have p := hO.put4 1 rfl (.slice qs.n.A qs.n.l qs.n.c) (.bool qs.n.g) (.slice qs.d.A qs.d.l qs.d.c) (.bool qs.d.g)
  exact ⟨p, fun q r h => h.set (NoW.w4 hO.b1) (SetB.set4 _ _ _ _ _ _ _ _ _ _)⟩
theorem QW.drew {w : World} {q : Qw} {a : Rat} (h : QW w q a) : QW w.drew q a := h
theorem Rats.setB {w w' : World} {A n c xs} (h : Rats w A n c xs) {B : Nat} (hb : Below B w w') (hB : w.heap.size ≤ B) : Rats w' A n c xs := h.below hb hB

theorem zeroQ (w : World) : QW w ⟨⟨none, 0, 0, false⟩, ⟨none, 0, 0, false⟩⟩ 0 := ⟨⟨[], U32.nil _, Tr_nil, rfl, rfl⟩, 0, ⟨[], U32.nil _, Tr_nil, rfl, rfl⟩, .inr ⟨rfl, rfl⟩⟩

theorem ratOf_neg {x : Int × Int} (h : VR x.1 x.2) (hx : x.1 < 0) : 0 ≤ -ratOf x := by
  rw [← Rat.num_nonneg]
  show 0 ≤ -(ratOf x).num
  rw [(ratOf_num h).1]
  omega
theorem pos_num {T : Rat} (h : 0 ≤ T) (h0 : T ≠ 0) : 0 < T.num := by
  have h1 := Rat.num_nonneg.2 h
  have h2 : T.num ≠ 0 := fun e => h0 (Rat.num_eq_zero.1 e)
  omega
theorem add_nn {a b : Rat} (ha : 0 ≤ a) (hb : 0 ≤ b) : 0 ≤ a + b := Rat.add_nonneg ha hb
theorem sub_mulR (S a b : Rat) : S - a * b = S + (-a) * b := by rw [Rat.sub_eq_add_neg, Rat.neg_mul]

set_option maxRecDepth 100000 in
set_option maxHeartbeats 16000000 in
theorem ref11_Mixed (A B : Option Addr) (n c m d : Nat) (xs ys : List (Int × Int)) (w : World) (hx : Rats w A n c xs) (hy : Rats w B m d ys) :
    Calls Try.prog 8 #[.slice A n c, .slice B m d] w (PMix w (mixed xs ys)) := by
  have hu := Try.underlying24
  have hu2 := Try.underlying34
  have hu3 := Try.underlying32
  have hO0 := Lib.hid (Own.one w 24 #[.int .i64 0, .int .i64 0])
  have hlx := Lib.hid hx.1
  have hly := Lib.hid hy.1
  go_enter Try.func8, Try.ntmps8
  go_wp2_with fail
  refine (r_Are A n c xs _ (hO0.out.rats hx)).mono ?_
  rintro e w1 ⟨rfl, hb⟩
  have hO1 := Lib.hid (hO0.out.call hb)
  clear hb
  by_cases V1 : AllVR xs
  · have hd1 : decide (AllVR xs) = true := by simpa using V1
    have V1 := Lib.hid V1
    go_wp2_with fail
    refine (r_Are B m d ys _ (hO1.out.rats hy)).mono ?_
    rintro e w1' ⟨rfl, hb⟩
    have hO2 := Lib.hid (hO1.out.call hb)
    clear hb
    by_cases V2 : AllVR ys
    · have hd2 : decide (AllVR ys) = true := by simpa using V2
      have V2 := Lib.hid V2
      by_cases L1 : 64 < n
      · have hmix := Lib.hid (show mixed xs ys = ((0, 0), false, 3) by have h1 := hlx.out; have h2 := V1.out; have h3 := V2.out; simp [mixed, h2, h3]; intro h; omega)
        obtain ⟨c0, c1, f0, f1⟩ := blk2 hO2.out.b0
        go_wp2_with fail
        refine bodyPost_ret (v := .tuple #[.agg #[.int .i64 0, .int .i64 0], .bool false, .int .i64 3]) (by simp [results, Try.results8, go_sem, c0, c1, f0, f1]) rfl ⟨by rw [hmix.out], hO2.out.set2 0 _ _ _ _⟩
      · by_cases L2 : 64 < m
        · have hmix := Lib.hid (show mixed xs ys = ((0, 0), false, 3) by have h1 := hly.out; have h2 := V1.out; have h3 := V2.out; simp [mixed, h2, h3]; intro h; omega)
          obtain ⟨c0, c1, f0, f1⟩ := blk2 hO2.out.b0
          go_wp2_with fail
          refine bodyPost_ret (v := .tuple #[.agg #[.int .i64 0, .int .i64 0], .bool false, .int .i64 3]) (by simp [results, Try.results8, go_sem, c0, c1, f0, f1]) rfl ⟨by rw [hmix.out], hO2.out.set2 0 _ _ _ _⟩
        · by_cases L3 : n = m
          · subst L3
            have L4 : ((n : Int) != n) = false := by simp
            have hx2 := hO2.out.rats hx
            have hy2 := hO2.out.rats hy
            obtain ⟨w2, hw2⟩ : ∃ w2, w2 = w1' := ⟨_, rfl⟩
            rw [← hw2] at hO2 hx2 hy2 ⊢
            clear hw2 hO0 hO1
            have hOw := Lib.hid (Own.two w2 34 34 #[.slice none 0 0, .bool false, .slice none 0 0, .bool false] #[.slice none 0 0, .bool false, .slice none 0 0, .bool false])
            go_wp2_with fail
            go_loopw [43] (fun v43 wr => ∃ (k : Nat) (qa qb : Qw), k ≤ n ∧ v43 = .int .i64 k ∧ Hid (Own w2 [(34, #[.slice qa.n.A qa.n.l qa.n.c, .bool qa.n.g, .slice qa.d.A qa.d.l qa.d.c, .bool qa.d.g]), (34, #[.slice qb.n.A qb.n.l qb.n.c, .bool qb.n.g, .slice qb.d.A qb.d.l qb.d.c, .bool qb.d.g])] wr) ∧ QW wr qa (mixS ((xs.zip ys).take k)) ∧ QW wr qb (mixB ((xs.zip ys).take k)) ∧ Sz (81 * k + 1) (mixS ((xs.zip ys).take k)) ∧ Sz (81 * k + 1) (mixB ((xs.zip ys).take k)) ∧ Hid (0 ≤ mixB ((xs.zip ys).take k))) (fun v _ => n - (intOf v).toNat)
            case atStart => exact ⟨0, ⟨⟨none, 0, 0, false⟩, ⟨none, 0, 0, false⟩⟩, ⟨⟨none, 0, 0, false⟩, ⟨none, 0, 0, false⟩⟩, Nat.zero_le _, rfl, hOw, zeroQ _, zeroQ _, Sz.zero, Sz.zero, Rat.le_refl⟩
            case round =>
              clear hOw
              obtain ⟨k, qa, qb, hk, rfl, hOw, hqa, hqb, hsa, hsb, hnn⟩ := hrel
              by_cases hlt : k < n
              · have hx3 := hOw.out.rats hx2
                have hy3 := hOw.out.rats hy2
                obtain ⟨gx, ox, x, rfl, hgx, hxk', -, -, hcx0, hcx1⟩ := hx3.cell hlt
                have hxk := Lib.hid hxk'
                have hVx := Lib.hid (V1.out x (List.mem_of_getElem? hxk'))
                obtain ⟨gy, oy, y, rfl, -, hyk', -, -, -, -⟩ := hy3.cell (k := k) hlt
                have hyk := Lib.hid hyk'
                have hVy := Lib.hid (V2.out y (List.mem_of_getElem? hyk'))
                have hgx2 : gx < w2.heap.size := by
                  obtain ⟨g', o', x', e, hg, -⟩ := hx2.cell (k := k) hlt
                  injection e with e
                  injection e with e1 e2
                  omega
                have hgy : gy < w2.heap.size := by
                  obtain ⟨g', o', x', e, hg, -⟩ := hy2.cell (k := k) hlt
                  injection e with e
                  injection e with e1 e2
                  omega
                clear hxk' hyk'
                have hSt : Hid (StR w2 qa qb (some ⟨gx, ox, none⟩) (some ⟨gy, oy, none⟩) n c d xs ys wr) := ⟨hOw.out, hx3, hy3⟩
                by_cases hneg : x.1 < 0
                · have hzS : Hid (mixS ((xs.zip ys).take (k + 1)) = mixS ((xs.zip ys).take k) + (-ratOf x) * ratOf y) := by show _ = _; rw [zip_take hxk.out hyk.out, mixS_snoc, if_pos hneg]
                  have hzB : Hid (mixB ((xs.zip ys).take (k + 1)) = mixB ((xs.zip ys).take k) + (-ratOf x)) := by show _ = _; rw [zip_take hxk.out hyk.out, mixB_snoc, if_pos hneg]
                  have hxnn := Lib.hid (ratOf_neg hVx.out hneg)
                  have hkb : 81 * k + 1 ≤ 4000000 := by omega
                  generalize mixS ((xs.zip ys).take k) = S at *
                  generalize mixB ((xs.zip ys).take k) = T at *
                  clear hx3 hy3
                  go_upto_region 12 with (fail)
                  clear hcx0 hcx1
                  go_cut [45] from 52 to 64 (fun v45 wc => v45 = .int .i64 k ∧ ∃ (qs : Qw), Hid (StR w2 qs qb (some ⟨gx, ox, none⟩) (some ⟨gy, oy, none⟩) n c d xs ys wc) ∧ QW wc qs (S + (-ratOf x) * ratOf y) ∧ QW wc qb T)
                  case first =>
                    have hS0 := hSt.out.drew.cells hxk hyk
                    have hqa := hqa.drew
                    have hqb := hqb.drew
                    refine wp_region_K (S := fun w' => ((w'.cell? ⟨w2.heap.size, 0, none⟩ = some (.slice qa.n.A qa.n.l qa.n.c) ∧ w'.cell? ⟨w2.heap.size, 1, none⟩ = some (.bool qa.n.g) ∧ w'.cell? ⟨w2.heap.size, 2, none⟩ = some (.slice qa.d.A qa.d.l qa.d.c) ∧ w'.cell? ⟨w2.heap.size, 3, none⟩ = some (.bool qa.d.g)) ∧ (w'.cell? ⟨w2.heap.size + 1, 0, none⟩ = some (.slice qb.n.A qb.n.l qb.n.c) ∧ w'.cell? ⟨w2.heap.size + 1, 1, none⟩ = some (.bool qb.n.g) ∧ w'.cell? ⟨w2.heap.size + 1, 2, none⟩ = some (.slice qb.d.A qb.d.l qb.d.c) ∧ w'.cell? ⟨w2.heap.size + 1, 3, none⟩ = some (.bool qb.d.g))) ∧ (w'.cell? ⟨gx, ox + k * 2, none⟩ = some (.int .i64 x.1) ∧ w'.cell? ⟨gx, ox + k * 2 + 1, none⟩ = some (.int .i64 x.2)) ∧ (w'.cell? ⟨gy, oy + k * 2, none⟩ = some (.int .i64 y.1) ∧ w'.cell? ⟨gy, oy + k * 2 + 1, none⟩ = some (.int .i64 y.2))) (K := [13]) (by kernel_rfl) ?_
                    refine AnyK.take (i := 0) (v := .agg #[.slice qa.n.A qa.n.l qa.n.c, .bool qa.n.g, .slice qa.d.A qa.d.l qa.d.c, .bool qa.d.g]) rfl (by kernel_rfl) (by kernel_rfl) (by kernel_rfl) (by kernel_rfl) (by kernel_rfl) (by kernel_rfl) (fun _ _ _ h => h) (Or.inl ⟨by rfl, ?_⟩) hS0 ?_
                    · rintro w' ⟨⟨⟨a0, a1, a2, a3⟩, b0, b1, b2, b3⟩, ⟨c0, c1⟩, d0, d1⟩
                      go_simp
                    (try simp only [Act.put, List.setIfInBounds_toArray, List.set_cons_zero, List.set_cons_succ])
                    refine AnyK.take (i := 1) (v := .slice (some ⟨gx, ox, none⟩) n c) rfl (by kernel_rfl) (by kernel_rfl) (by kernel_rfl) (by kernel_rfl) (by kernel_rfl) (by kernel_rfl) (fun _ _ _ h => h) (Or.inl ⟨by rfl, ?_⟩) hS0 ?_
                    · rintro w' ⟨⟨⟨a0, a1, a2, a3⟩, b0, b1, b2, b3⟩, ⟨c0, c1⟩, d0, d1⟩
                      go_simp
                    (try simp only [Act.put, List.setIfInBounds_toArray, List.set_cons_zero, List.set_cons_succ])
                    refine AnyK.take (i := 2) (v := .int .i64 k) rfl (by kernel_rfl) (by kernel_rfl) (by kernel_rfl) (by kernel_rfl) (by kernel_rfl) (by kernel_rfl) (fun _ _ _ h => h) (Or.inl ⟨by rfl, ?_⟩) hS0 ?_
                    · rintro w' ⟨⟨⟨a0, a1, a2, a3⟩, b0, b1, b2, b3⟩, ⟨c0, c1⟩, d0, d1⟩
                      go_simp
                    (try simp only [Act.put, List.setIfInBounds_toArray, List.set_cons_zero, List.set_cons_succ])
                    refine AnyK.take (i := 3) (v := .pointer (some ⟨gx, ox + k * 2, none⟩)) rfl (by kernel_rfl) (by kernel_rfl) (by kernel_rfl) (by kernel_rfl) (by kernel_rfl) (by kernel_rfl) (fun _ _ _ h => h) (Or.inl ⟨by rfl, ?_⟩) hS0 ?_
                    · rintro w' ⟨⟨⟨a0, a1, a2, a3⟩, b0, b1, b2, b3⟩, ⟨c0, c1⟩, d0, d1⟩
                      go_simp
                    (try simp only [Act.put, List.setIfInBounds_toArray, List.set_cons_zero, List.set_cons_succ])
                    refine AnyK.take (i := 4) (v := .agg #[.int .i64 x.1, .int .i64 x.2]) rfl (by kernel_rfl) (by kernel_rfl) (by kernel_rfl) (by kernel_rfl) (by kernel_rfl) (by kernel_rfl) (fun _ _ _ h => h) (Or.inl ⟨by rfl, ?_⟩) hS0 ?_
                    · rintro w' ⟨⟨⟨a0, a1, a2, a3⟩, b0, b1, b2, b3⟩, ⟨c0, c1⟩, d0, d1⟩
                      go_simp
                    (try simp only [Act.put, List.setIfInBounds_toArray, List.set_cons_zero, List.set_cons_succ])
                    refine AnyK.take (i := 6) (v := .slice (some ⟨gy, oy, none⟩) n d) rfl (by kernel_rfl) (by kernel_rfl) (by kernel_rfl) (by kernel_rfl) (by kernel_rfl) (by kernel_rfl) (fun _ _ _ h => h) (Or.inl ⟨by rfl, ?_⟩) hS0 ?_
                    · rintro w' ⟨⟨⟨a0, a1, a2, a3⟩, b0, b1, b2, b3⟩, ⟨c0, c1⟩, d0, d1⟩
                      go_simp
                    (try simp only [Act.put, List.setIfInBounds_toArray, List.set_cons_zero, List.set_cons_succ])
                    refine AnyK.take (i := 7) (v := .int .i64 k) rfl (by kernel_rfl) (by kernel_rfl) (by kernel_rfl) (by kernel_rfl) (by kernel_rfl) (by kernel_rfl) (fun _ _ _ h => h) (Or.inl ⟨by rfl, ?_⟩) hS0 ?_
                    · rintro w' ⟨⟨⟨a0, a1, a2, a3⟩, b0, b1, b2, b3⟩, ⟨c0, c1⟩, d0, d1⟩
                      go_simp
                    (try simp only [Act.put, List.setIfInBounds_toArray, List.set_cons_zero, List.set_cons_succ])
                    refine AnyK.take (i := 8) (v := .pointer (some ⟨gy, oy + k * 2, none⟩)) rfl (by kernel_rfl) (by kernel_rfl) (by kernel_rfl) (by kernel_rfl) (by kernel_rfl) (by kernel_rfl) (fun _ _ _ h => h) (Or.inl ⟨by rfl, ?_⟩) hS0 ?_
                    · rintro w' ⟨⟨⟨a0, a1, a2, a3⟩, b0, b1, b2, b3⟩, ⟨c0, c1⟩, d0, d1⟩
                      go_simp
                    (try simp only [Act.put, List.setIfInBounds_toArray, List.set_cons_zero, List.set_cons_succ])
                    refine AnyK.take (i := 9) (v := .agg #[.int .i64 y.1, .int .i64 y.2]) rfl (by kernel_rfl) (by kernel_rfl) (by kernel_rfl) (by kernel_rfl) (by kernel_rfl) (by kernel_rfl) (fun _ _ _ h => h) (Or.inl ⟨by rfl, ?_⟩) hS0 ?_
                    · rintro w' ⟨⟨⟨a0, a1, a2, a3⟩, b0, b1, b2, b3⟩, ⟨c0, c1⟩, d0, d1⟩
                      go_simp
                    (try simp only [Act.put, List.setIfInBounds_toArray, List.set_cons_zero, List.set_cons_succ])
                    have hS1 := Lib.hid hSt.out.drew
                    refine AnyK.one (i := 5) (by kernel_rfl) rfl (fun K' hK => ?_)
                    go_simp
                    refine (r_Of x _ hVx).mono ?_
                    rintro e v2 ⟨qx, rfl, hqx, hb⟩
                    have hS2 := Lib.hid (hS1.out.call hb)
                    have hqa1 := hqa.below hb (Nat.le_refl _)
                    have hqb1 := hqb.below hb (Nat.le_refl _)
                    clear hb
                    refine hK.out _ _ (fun _ => hS2.out.cells hxk hyk) ?_
                    clear hK
                    (try simp only [Act.put, List.setIfInBounds_toArray, List.set_cons_zero, List.set_cons_succ])
                    refine AnyK.one (i := 10) (by kernel_rfl) rfl (fun K' hK => ?_)
                    go_simp
                    refine (r_Of y _ hVy).mono ?_
                    rintro e v3 ⟨qy, rfl, hqy, hb⟩
                    have hS3 := Lib.hid (hS2.out.call hb)
                    have hqa2 := hqa1.below hb (Nat.le_refl _)
                    have hqb2 := hqb1.below hb (Nat.le_refl _)
                    have hqx1 := hqx.below hb (Nat.le_refl _)
                    clear hb
                    refine hK.out _ _ (fun _ => hS3.out.cells hxk hyk) ?_
                    clear hK
                    (try simp only [Act.put, List.setIfInBounds_toArray, List.set_cons_zero, List.set_cons_succ])
                    refine AnyK.one (i := 11) (by kernel_rfl) rfl (fun K' hK => ?_)
                    go_simp
                    refine (r_QMul qx qy (ratOf x) (ratOf y) _ 40 40 hqx1 hqy (ratOf_sz hVx.out) (ratOf_sz hVy.out) (by omega)).mono ?_
                    rintro e v4 ⟨qm, rfl, hqm, hb⟩
                    have hS4 := Lib.hid (hS3.out.call hb)
                    have hqa3 := hqa2.below hb (Nat.le_refl _)
                    have hqb3 := hqb2.below hb (Nat.le_refl _)
                    clear hb
                    refine hK.out _ _ (fun _ => hS4.out.cells hxk hyk) ?_
                    clear hK
                    (try simp only [Act.put, List.setIfInBounds_toArray, List.set_cons_zero, List.set_cons_succ])
                    refine AnyK.one (i := 12) (by kernel_rfl) rfl (fun K' hK => ?_)
                    go_simp
                    refine (r_QSub qa qm S _ _ (81 * k + 1) 80 hqa3 hqm hsa ((ratOf_sz hVx.out).mul (ratOf_sz hVy.out)) (by omega)).mono ?_
                    rintro e v5 ⟨qs, rfl, hqs, hb⟩
                    have hS5 := Lib.hid (hS4.out.call hb)
                    have hqb4 := hqb3.below hb (Nat.le_refl _)
                    clear hb
                    refine hK.out _ _ (fun _ => hS5.out.cells hxk hyk) ?_
                    clear hK
                    (try simp only [Act.put, List.setIfInBounds_toArray, List.set_cons_zero, List.set_cons_succ])
                    obtain ⟨⟨a0, a1, a2, a3⟩, f0, f1, f2, f3⟩ := blkW4 hS5.out.1.b0
                    refine AnyK.one (i := 13) (by kernel_rfl) rfl (fun K' hK => ?_)
                    go_simp
                    refine hK.out _ _ (fun h => absurd h (Bool.eq_false_iff.1 (by kernel_rfl))) ?_
                    clear hK
                    (try simp only [Act.put, List.setIfInBounds_toArray, List.set_cons_zero, List.set_cons_succ])
                    refine AnyK.done (by kernel_rfl) ?_ _
                    go_wp2_with fail
                    go_meet
                    obtain ⟨r1, r2⟩ := put4a (qs := qs) hS5.out.1 rfl
                    have hbel := hS5.out.1.setW4 0 0 1 2 3 (.slice qs.n.A qs.n.l qs.n.c) (.bool qs.n.g) (.slice qs.d.A qs.d.l qs.d.c) (.bool qs.d.g)
                    rw [Nat.add_zero] at hbel
                    exact ⟨rfl, qs, ⟨r1, hx2.below hbel (Nat.le_refl _), hy2.below hbel (Nat.le_refl _)⟩, r2 _ _ (by rw [← sub_mulR]; exact hqs), r2 _ _ hqb4⟩
                  case rest =>
                    obtain ⟨rfl, qa', hSt', hqa', hqb'⟩ := hcut
                    clear hSt hqa hqb hOw
                    obtain ⟨qa, rfl⟩ : ∃ qa, qa = qa' := ⟨_, rfl⟩
                    have hSt := hSt'
                    have hS0 := hSt.out.drew.cells hxk hyk
                    have hqa := hqa'.drew
                    have hqb := hqb'.drew
                    clear hSt' hqa' hqb'
                    go_upto_region 13 with (fail)
                    refine wp_region_K (S := fun w' => ((w'.cell? ⟨w2.heap.size, 0, none⟩ = some (.slice qa.n.A qa.n.l qa.n.c) ∧ w'.cell? ⟨w2.heap.size, 1, none⟩ = some (.bool qa.n.g) ∧ w'.cell? ⟨w2.heap.size, 2, none⟩ = some (.slice qa.d.A qa.d.l qa.d.c) ∧ w'.cell? ⟨w2.heap.size, 3, none⟩ = some (.bool qa.d.g)) ∧ (w'.cell? ⟨w2.heap.size + 1, 0, none⟩ = some (.slice qb.n.A qb.n.l qb.n.c) ∧ w'.cell? ⟨w2.heap.size + 1, 1, none⟩ = some (.bool qb.n.g) ∧ w'.cell? ⟨w2.heap.size + 1, 2, none⟩ = some (.slice qb.d.A qb.d.l qb.d.c) ∧ w'.cell? ⟨w2.heap.size + 1, 3, none⟩ = some (.bool qb.d.g))) ∧ (w'.cell? ⟨gx, ox + k * 2, none⟩ = some (.int .i64 x.1) ∧ w'.cell? ⟨gx, ox + k * 2 + 1, none⟩ = some (.int .i64 x.2)) ∧ (w'.cell? ⟨gy, oy + k * 2, none⟩ = some (.int .i64 y.1) ∧ w'.cell? ⟨gy, oy + k * 2 + 1, none⟩ = some (.int .i64 y.2))) (K := [7]) (by kernel_rfl) ?_
                    refine AnyK.take (i := 0) (v := .agg #[.slice qb.n.A qb.n.l qb.n.c, .bool qb.n.g, .slice qb.d.A qb.d.l qb.d.c, .bool qb.d.g]) rfl (by kernel_rfl) (by kernel_rfl) (by kernel_rfl) (by kernel_rfl) (by kernel_rfl) (by kernel_rfl) (fun _ _ _ h => h) (Or.inl ⟨by rfl, ?_⟩) hS0 ?_
                    · rintro w' ⟨⟨⟨a0, a1, a2, a3⟩, b0, b1, b2, b3⟩, ⟨c0, c1⟩, d0, d1⟩
                      go_simp
                    (try simp only [Act.put, List.setIfInBounds_toArray, List.set_cons_zero, List.set_cons_succ])
                    refine AnyK.take (i := 1) (v := .slice (some ⟨gx, ox, none⟩) n c) rfl (by kernel_rfl) (by kernel_rfl) (by kernel_rfl) (by kernel_rfl) (by kernel_rfl) (by kernel_rfl) (fun _ _ _ h => h) (Or.inl ⟨by rfl, ?_⟩) hS0 ?_
                    · rintro w' ⟨⟨⟨a0, a1, a2, a3⟩, b0, b1, b2, b3⟩, ⟨c0, c1⟩, d0, d1⟩
                      go_simp
                    (try simp only [Act.put, List.setIfInBounds_toArray, List.set_cons_zero, List.set_cons_succ])
                    refine AnyK.take (i := 2) (v := .int .i64 k) rfl (by kernel_rfl) (by kernel_rfl) (by kernel_rfl) (by kernel_rfl) (by kernel_rfl) (by kernel_rfl) (fun _ _ _ h => h) (Or.inl ⟨by rfl, ?_⟩) hS0 ?_
                    · rintro w' ⟨⟨⟨a0, a1, a2, a3⟩, b0, b1, b2, b3⟩, ⟨c0, c1⟩, d0, d1⟩
                      go_simp
                    (try simp only [Act.put, List.setIfInBounds_toArray, List.set_cons_zero, List.set_cons_succ])
                    refine AnyK.take (i := 3) (v := .pointer (some ⟨gx, ox + k * 2, none⟩)) rfl (by kernel_rfl) (by kernel_rfl) (by kernel_rfl) (by kernel_rfl) (by kernel_rfl) (by kernel_rfl) (fun _ _ _ h => h) (Or.inl ⟨by rfl, ?_⟩) hS0 ?_
                    · rintro w' ⟨⟨⟨a0, a1, a2, a3⟩, b0, b1, b2, b3⟩, ⟨c0, c1⟩, d0, d1⟩
                      go_simp
                    (try simp only [Act.put, List.setIfInBounds_toArray, List.set_cons_zero, List.set_cons_succ])
                    refine AnyK.take (i := 4) (v := .agg #[.int .i64 x.1, .int .i64 x.2]) rfl (by kernel_rfl) (by kernel_rfl) (by kernel_rfl) (by kernel_rfl) (by kernel_rfl) (by kernel_rfl) (fun _ _ _ h => h) (Or.inl ⟨by rfl, ?_⟩) hS0 ?_
                    · rintro w' ⟨⟨⟨a0, a1, a2, a3⟩, b0, b1, b2, b3⟩, ⟨c0, c1⟩, d0, d1⟩
                      go_simp
                    (try simp only [Act.put, List.setIfInBounds_toArray, List.set_cons_zero, List.set_cons_succ])
                    have hS1 := Lib.hid hSt.out.drew
                    refine AnyK.one (i := 5) (by kernel_rfl) rfl (fun K' hK => ?_)
                    go_simp
                    refine (r_Of x _ hVx).mono ?_
                    rintro e v2 ⟨qx, rfl, hqx, hb⟩
                    have hS2 := Lib.hid (hS1.out.call hb)
                    have hqa1 := hqa.below hb (Nat.le_refl _)
                    have hqb1 := hqb.below hb (Nat.le_refl _)
                    clear hb
                    refine hK.out _ _ (fun _ => hS2.out.cells hxk hyk) ?_
                    clear hK
                    (try simp only [Act.put, List.setIfInBounds_toArray, List.set_cons_zero, List.set_cons_succ])
                    refine AnyK.one (i := 6) (by kernel_rfl) rfl (fun K' hK => ?_)
                    go_simp
                    refine (r_QSub qb qx T _ _ (81 * k + 1) 40 hqb1 hqx hsb (ratOf_sz hVx.out) (by omega)).mono ?_
                    rintro e v3 ⟨qt, rfl, hqt, hb⟩
                    have hS3 := Lib.hid (hS2.out.call hb)
                    have hqa2 := hqa1.below hb (Nat.le_refl _)
                    clear hb
                    refine hK.out _ _ (fun _ => hS3.out.cells hxk hyk) ?_
                    clear hK
                    (try simp only [Act.put, List.setIfInBounds_toArray, List.set_cons_zero, List.set_cons_succ])
                    obtain ⟨⟨b0, b1, b2, b3⟩, f0, f1, f2, f3⟩ := blkW4 hS3.out.1.b1
                    refine AnyK.one (i := 7) (by kernel_rfl) rfl (fun K' hK => ?_)
                    go_simp
                    refine hK.out _ _ (fun h => absurd h (Bool.eq_false_iff.1 (by kernel_rfl))) ?_
                    clear hK
                    (try simp only [Act.put, List.setIfInBounds_toArray, List.set_cons_zero, List.set_cons_succ])
                    refine AnyK.done (by kernel_rfl) ?_ _
                    obtain ⟨r1, r2⟩ := put4b (qs := qt) hS3.out.1 rfl
                    have r3 := r2 _ _ hqa2
                    have r4 := r2 _ _ hqt
                    have r5 := Lib.hid r1
                    clear r1 r2
                    go_wp2_with fail
                    go_roundw
                    case rel => exact ⟨k + 1, qa, qt, by omega, by go_num, r5, by rw [hzS.out]; exact r3, by rw [hzB.out, ← Rat.sub_eq_add_neg]; exact r4, by rw [hzS.out]; exact (hsa.add ((ratOf_sz hVx.out).neg.mul (ratOf_sz hVy.out))).mono (by omega), by rw [hzB.out]; exact (hsb.add (ratOf_sz hVx.out).neg).mono (by omega), by rw [hzB.out]; exact add_nn hnn.out hxnn.out⟩
                    case measure => simp [intOf]; omega
                · have hz := zip_take hxk.out hyk.out
                  have hz1 : Hid (mixS ((xs.zip ys).take (k + 1)) = mixS ((xs.zip ys).take k)) := by show _ = _; rw [hz, mixS_snoc, if_neg hneg]
                  have hz2 : Hid (mixB ((xs.zip ys).take (k + 1)) = mixB ((xs.zip ys).take k)) := by show _ = _; rw [hz, mixB_snoc, if_neg hneg]
                  clear hz hx3 hy3
                  go_wp2_with fail
                  go_roundw
                  case rel => exact ⟨k + 1, qa, qb, by omega, by go_num, hOw, by rw [hz1.out]; exact hqa, by rw [hz2.out]; exact hqb, by rw [hz1.out]; exact hsa.mono (by omega), by rw [hz2.out]; exact hsb.mono (by omega), by rw [hz2.out]; exact hnn.out⟩
                  case measure => simp [intOf]; omega
              · have hkn : k = n := by omega
                have htk : (xs.zip ys).take k = xs.zip ys := List.take_of_length_le (by rw [List.length_zip]; have h1 := hlx.out; have h2 := hly.out; omega)
                have hkb : 81 * k + 1 ≤ 4000000 := by omega
                rw [htk] at hqa hqb hsa hsb hnn
                clear htk
                subst hkn
                have hbase : Hid (mixed xs ys = if mixB (xs.zip ys) = 0 then ((0, 0), false, 0)
                  else if -1000000000000 ≤ (mixS (xs.zip ys) / mixB (xs.zip ys)).num ∧ (mixS (xs.zip ys) / mixB (xs.zip ys)).num ≤ 1000000000000 ∧ ((mixS (xs.zip ys) / mixB (xs.zip ys)).den : Int) ≤ 1000000000000 then (((mixS (xs.zip ys) / mixB (xs.zip ys)).num, ((mixS (xs.zip ys) / mixB (xs.zip ys)).den : Int)), true, 0)
                  else ((0, 0), false, 3)) := by
                  show _ = _
                  have h1 := hlx.out
                  have h0 := hly.out
                  unfold mixed
                  rw [if_neg (by simp [V1.out, V2.out]), if_neg (by omega), if_neg (by omega)]
                generalize mixS (xs.zip ys) = S at *
                generalize mixB (xs.zip ys) = T at *
                obtain ⟨-, g0, g1, g2, g3⟩ := keep44 hOw.out
                go_wp2_with fail
                obtain ⟨bz, hbz'⟩ : ∃ bz, bz = decide (T = 0) := ⟨_, rfl⟩
                have hiz := r_IsZero qb T _ hqb
                rw [← hbz'] at hiz
                have hbz := Lib.hid hbz'
                clear hbz'
                refine hiz.mono ?_
                clear hiz
                rintro e w5 ⟨rfl, hb⟩
                have hO5 := Lib.hid (hOw.out.call hb)
                have hqa := hqa.below hb (Nat.le_refl _)
                have hqb := hqb.below hb (Nat.le_refl _)
                clear hb g0 g1 g2 g3
                have hOR := Lib.hid (hO2.out.call hO5.out.1)
                cases bz with
                | true =>
                  have hT : Hid (T = 0) := by have := hbz.out; show _ = _; simpa using this.symm
                  have hmix := Lib.hid (show mixed xs ys = ((0, 0), false, 0) by rw [hbase.out, if_pos hT.out])
                  obtain ⟨c0, c1, f0, f1⟩ := blk2 hOR.out.b0
                  go_wp2_with fail
                  refine bodyPost_ret (v := .tuple #[.agg #[.int .i64 0, .int .i64 0], .bool false, .int .i64 0]) (by simp [results, Try.results8, go_sem, c0, c1, f0, f1]) rfl ⟨by rw [hmix.out], hOR.out.set2 0 _ _ _ _⟩
                | false =>
                  have hT : Hid (T ≠ 0) := by have := hbz.out; show _ ≠ _; simpa using this.symm
                  have hTp : Hid (0 < T.num) := pos_num hnn.out hT.out
                  obtain ⟨⟨g0, g1, g2, g3⟩, g6, g7, g8, g9⟩ := keep44 hO5.out
                  go_wp2_with fail
                  refine (r_QDiv qa qb S T _ _ _ hqa hqb hsa hsb (by omega) hTp).mono ?_
                  rintro e w6 ⟨q, rfl, hq, hb⟩
                  have hOR6 := Lib.hid (hOR.out.call hb)
                  clear hb g0 g1 g2 g3 g6 g7 g8 g9
                  go_wp2_with fail
                  refine (r_Rat q (S / T) _ hq).mono ?_
                  rintro e w7 ⟨hb, hcase⟩
                  have hOR7 := Lib.hid (hOR6.out.call hb)
                  clear hb
                  obtain ⟨c0, c1, f0, f1⟩ := blk2 hOR7.out.b0
                  rcases hcase with ⟨o1, o2, o3, rfl⟩ | ⟨o1, rfl⟩
                  · have hmix := Lib.hid (show mixed xs ys = (((S / T).num, ((S / T).den : Int)), true, 0) by rw [hbase.out, if_neg hT.out, if_pos ⟨o1, o2, o3⟩])
                    have hOR8 := Lib.hid (hOR7.out.more (.cells #[.int .i64 (S / T).num, .int .i64 (S / T).den] 24))
                    clear o1 o2 o3 c0 c1 f0 f1
                    obtain ⟨c0, c1, f0, f1⟩ := blk2 hOR8.out.b0
                    go_wp2_with fail
                    refine bodyPost_ret (v := .tuple #[.agg #[.int .i64 (S / T).num, .int .i64 (S / T).den], .bool true, .int .i64 0]) (by simp [results, Try.results8, go_sem, c0, c1, f0, f1]) rfl ⟨by rw [hmix.out], hOR8.out.set2 0 _ _ _ _⟩
                  · have hmix := Lib.hid (show mixed xs ys = ((0, 0), false, 3) by rw [hbase.out, if_neg hT.out, if_neg o1])
                    have hOR8 := Lib.hid (hOR7.out.more (.cells #[.int .i64 0, .int .i64 0] 24))
                    clear o1 c0 c1 f0 f1
                    obtain ⟨c0, c1, f0, f1⟩ := blk2 hOR8.out.b0
                    go_wp2_with fail
                    refine bodyPost_ret (v := .tuple #[.agg #[.int .i64 0, .int .i64 0], .bool false, .int .i64 3]) (by simp [results, Try.results8, go_sem, c0, c1, f0, f1]) rfl ⟨by rw [hmix.out], hOR8.out.set2 0 _ _ _ _⟩
          · have L4 : ((n : Int) != m) = true := by simp; omega
            have hmix := Lib.hid (show mixed xs ys = ((0, 0), false, 8) by have h1 := hlx.out; have h0 := hly.out; have h2 := V1.out; have h3 := V2.out; unfold mixed; rw [if_neg (by simp [h2, h3]), if_neg (by omega), if_pos (by omega)])
            obtain ⟨c0, c1, f0, f1⟩ := blk2 hO2.out.b0
            go_wp2_with fail
            refine bodyPost_ret (v := .tuple #[.agg #[.int .i64 0, .int .i64 0], .bool false, .int .i64 8]) (by simp [results, Try.results8, go_sem, c0, c1, f0, f1]) rfl ⟨by rw [hmix.out], hO2.out.set2 0 _ _ _ _⟩
    · have hd2 : decide (AllVR ys) = false := by simpa using V2
      have hmix := Lib.hid (show mixed xs ys = ((0, 0), false, 1) by unfold mixed; rw [if_pos (by simp [V2])])
      obtain ⟨c0, c1, f0, f1⟩ := blk2 hO2.out.b0
      go_wp2_with fail
      refine bodyPost_ret (v := .tuple #[.agg #[.int .i64 0, .int .i64 0], .bool false, .int .i64 1]) (by simp [results, Try.results8, go_sem, c0, c1, f0, f1]) rfl ⟨by rw [hmix.out], hO2.out.set2 0 _ _ _ _⟩
  · have hd1 : decide (AllVR xs) = false := by simpa using V1
    have hmix := Lib.hid (show mixed xs ys = ((0, 0), false, 1) by unfold mixed; rw [if_pos (by simp [V1])])
    obtain ⟨c0, c1, f0, f1⟩ := blk2 hO1.out.b0
    go_wp2_with fail
    refine bodyPost_ret (v := .tuple #[.agg #[.int .i64 0, .int .i64 0], .bool false, .int .i64 1]) (by simp [results, Try.results8, go_sem, c0, c1, f0, f1]) rfl ⟨by rw [hmix.out], hO1.out.set2 0 _ _ _ _⟩

end Go.Proofs.Ytgoojlnfobjplaa
