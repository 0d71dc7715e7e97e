/- The laws' walks: the value of a stream in a junction, the mean. -/
import Derived.Test.YtgoojlnfobjplaaRu
import Derived.Test.YtgoojlnfobjplaaFg
import Derived.Test.YtgoojlnfobjplaaRv
import Derived.Deep.CutRange
namespace Go.Proofs.Ytgoojlnfobjplaa
open Go.RowKit
set_option linter.unusedSimpArgs false
set_option linter.unusedVariables false

set_option maxRecDepth 100000 in
set_option maxHeartbeats 4000000 in
theorem law11_JoinMixes (A B : Option Addr) (n c m d : Nat) (xs ys : List (Int × Int)) (w : World) (hx : Rats w A n c xs) (hy : Rats w B m d ys) :
    Calls Try.prog 3 #[.slice A n c, .slice B m d] w fun e w' => e = .returned (.bool true) ∧ Below w.heap.size w w' := by
  have hu := Try.underlying24
  obtain ⟨⟨⟨p1, p2⟩, bo, er⟩, hr'⟩ : ∃ r, r = mixed xs ys := ⟨_, rfl⟩
  have hM := join_Mixed A B n c m d xs ys _ hx hy
  rw [← hr'] at hM
  have hr := Lib.hid hr'
  clear hr'
  go_enter Try.func3, Try.ntmps3
  go_wp2_with fail
  refine hM.mono ?_
  clear hM
  rintro e w1 ⟨rfl, hb1⟩
  have hB0 : Blk (w1.alloc (.cells #[.int .i64 p1, .int .i64 p2] 24)) w1.heap.size 24 #[.int .i64 p1, .int .i64 p2] := Blk.new _ _ _
  have hb2 : Below w.heap.size w (w1.alloc (.cells #[.int .i64 p1, .int .i64 p2] 24)) := hb1.alloc hb1.size _
  have hM := ref11_Mixed A B n c m d xs ys _ (hx.below hb2 (Nat.le_refl _)) (hy.below hb2 (Nat.le_refl _))
  rw [← hr.out] at hM
  go_wp2_with fail
  refine hM.mono ?_
  clear hM
  rintro e w2 ⟨rfl, hb3⟩
  have hB1 := hB0.below hb3 hB0.lt
  have hb4 := Lib.hid (hb2.trans (hb3.mono hb2.size))
  have hl := hB1.lt
  have hc0 := hB1.cell 0
  have hc1 := hB1.cell 1
  have hne : w1.heap.size ≠ w2.heap.size := by omega
  simp at hc0 hc1
  clear hb1 hb2 hb3 hB0 hB1
  go_wp2_with fail
  have hb5 := Lib.hid (hb4.out.alloc hb4.out.size (.cells #[.int .i64 p1, .int .i64 p2] 24))
  refine (law11_known _).mono ?_
  rintro e w3 ⟨rfl, hb6⟩
  have hb7 := Lib.hid (hb5.out.trans (hb6.mono hb5.out.size))
  clear hb6 hc0 hc1 hne hl
  go_wp2_with fail
  go_ret
  exact ⟨rfl, hb7.out⟩

theorem keepYV {w' : World} {gy o g : Nat} {y1 y2 p1 p2 : Int} {t : TypeId} (h1 : w'.cell? ⟨gy, o, none⟩ = some (.int .i64 y1)) (h2 : w'.cell? ⟨gy, o + 1, none⟩ = some (.int .i64 y2)) (hB : Blk w' g t #[.int .i64 p1, .int .i64 p2]) :
    (w'.cell? ⟨gy, o, none⟩ = some (.int .i64 y1) ∧ w'.cell? ⟨gy, o + 1, none⟩ = some (.int .i64 y2)) ∧ (w'.cell? ⟨g, 0, none⟩ = some (.int .i64 p1) ∧ w'.cell? ⟨g, 1, none⟩ = some (.int .i64 p2)) := ⟨⟨h1, h2⟩, hB.cell 0, hB.cell 1⟩

set_option maxRecDepth 100000 in
set_option maxHeartbeats 8000000 in
theorem law11_JoinMean (A B : Option Addr) (n c m d : Nat) (xs ys : List (Int × Int)) (w : World) (hx : Rats w A n c xs) (hy : Rats w B m d ys) :
    Calls Try.prog 4 #[.slice A n c, .slice B m d] w fun e w' => e = .returned (.bool true) ∧ Below w.heap.size w w' := by
  have hu := Try.underlying24
  have hu2 := Try.underlying34
  have hlx := Lib.hid hx.1
  have hly := Lib.hid hy.1
  obtain ⟨⟨⟨p1, p2⟩, bo, er⟩, hr'⟩ : ∃ r, r = mixed xs ys := ⟨_, rfl⟩
  have hM := join_Mixed A B n c m d xs ys _ hx hy
  rw [← hr'] at hM
  have hr := Lib.hid hr'
  clear hr'
  go_enter Try.func4, Try.ntmps4
  go_wp2_with fail
  refine hM.mono ?_
  clear hM
  rintro e w1 ⟨rfl, hb1⟩
  have hB0 : Blk (w1.alloc (.cells #[.int .i64 p1, .int .i64 p2] 24)) w1.heap.size 24 #[.int .i64 p1, .int .i64 p2] := Blk.new _ _ _
  have hb2 : Below w.heap.size w (w1.alloc (.cells #[.int .i64 p1, .int .i64 p2] 24)) := hb1.alloc hb1.size _
  by_cases he : er = 0
  · subst he
    cases bo with
    | false =>
      have hb2 := Lib.hid hb2
      clear hB0
      go_wp2_with fail
      refine (law11_known _).mono ?_
      rintro e w3 ⟨rfl, hb6⟩
      have hb7 := Lib.hid (hb2.out.trans (hb6.mono hb2.out.size))
      clear hb6
      go_wp2_with fail
      go_ret
      exact ⟨rfl, hb7.out⟩
    | true =>
      have hok := Lib.hid (mixed_ok hr.out)
      have hnm : n = m := by have := hok.out.2.2.1; have h1 := hlx.out; have h2 := hly.out; omega
      subst hnm
      have hn64 : n ≤ 64 := by have := hok.out.2.2.2.1; have h1 := hlx.out; omega
      have L4 : ((n : Int) != n) = false := by simp
      have hB0 := Lib.hid hB0
      have hb2 := Lib.hid hb2
      go_wp2_with fail
      go_loopw [8, 9, 33] (fun v8 v9 v33 wr => ∃ k : Nat, k ≤ n ∧ v33 = .int .i64 k ∧ v8 = .bool (belowM ((xs.zip ys).take k) (ratOf (p1, p2))) ∧ v9 = .bool (aboveM ((xs.zip ys).take k) (ratOf (p1, p2))) ∧ Hid (Blk wr w1.heap.size 24 #[.int .i64 p1, .int .i64 p2]) ∧ Hid (Below w.heap.size w wr)) (fun _ _ v _ => n - (intOf v).toNat)
      case atStart => exact ⟨0, Nat.zero_le _, rfl, rfl, rfl, hB0, hb2⟩
      case round =>
        clear hB0 hb2
        obtain ⟨k, hk, rfl, rfl, rfl, hB, hb⟩ := hrel
        by_cases hlt : k < n
        · obtain ⟨gx, ox, x, rfl, hgx, hxk', -, -, hcx0, hcx1⟩ := (hx.below hb.out (Nat.le_refl _)).cell hlt
          have hxk := Lib.hid hxk'
          obtain ⟨gy, oy, y, rfl, hgy, hyk', -, -, hcy0, hcy1⟩ := (hy.below hb.out (Nat.le_refl _)).cell (k := k) hlt
          have hyk := Lib.hid hyk'
          have hVy := Lib.hid (hok.out.2.1 y (List.mem_of_getElem? hyk'))
          have hVv := Lib.hid hok.out.2.2.2.2.2.2
          have hzt := zip_take hxk' hyk'
          clear hxk' hyk'
          have hbl : Hid (belowM ((xs.zip ys).take (k + 1)) (ratOf (p1, p2)) = (belowM ((xs.zip ys).take k) (ratOf (p1, p2)) || (decide (x.1 < 0) && decide (ratOf y ≤ ratOf (p1, p2))))) := by show _ = _; rw [hzt]; unfold belowM; rw [List.any_append, List.any_cons, List.any_nil, Bool.or_false]
          have hab : Hid (aboveM ((xs.zip ys).take (k + 1)) (ratOf (p1, p2)) = (aboveM ((xs.zip ys).take k) (ratOf (p1, p2)) || (decide (x.1 < 0) && decide (ratOf (p1, p2) ≤ ratOf y)))) := by show _ = _; rw [hzt]; unfold aboveM; rw [List.any_append, List.any_cons, List.any_nil, Bool.or_false]
          clear hzt
          generalize belowM ((xs.zip ys).take k) (ratOf (p1, p2)) = bl at *
          generalize aboveM ((xs.zip ys).take k) (ratOf (p1, p2)) = ab at *
          by_cases hneg : x.1 < 0
          · have hn2 : ¬ (0 ≤ x.1) := by omega
            have hn3 : decide (0 ≤ x.1) = false := by simpa using hn2
            have hbl2 : Hid (belowM ((xs.zip ys).take (k + 1)) (ratOf (p1, p2)) = (bl || decide (ratOf y ≤ ratOf (p1, p2)))) := by show _ = _; rw [hbl.out]; simp [hneg]
            have hab2 : Hid (aboveM ((xs.zip ys).take (k + 1)) (ratOf (p1, p2)) = (ab || decide (ratOf (p1, p2) ≤ ratOf y))) := by show _ = _; rw [hab.out]; simp [hneg]
            clear hbl hab
            have hS : (fun w' : World => (w'.cell? ⟨gy, oy + k * 2, none⟩ = some (.int .i64 y.1) ∧ w'.cell? ⟨gy, oy + k * 2 + 1, none⟩ = some (.int .i64 y.2)) ∧ (w'.cell? ⟨w1.heap.size, 0, none⟩ = some (.int .i64 p1) ∧ w'.cell? ⟨w1.heap.size, 1, none⟩ = some (.int .i64 p2))) wr.drew := ⟨⟨hcy0, hcy1⟩, hB.out.cell 0, hB.out.cell 1⟩
            have hq0 := Lib.hid (And.intro hcy0 hcy1)
            have hm1 : Hid (1 = 1) := rfl
            go_upto_region 11 with (fail)
            clear hcx0 hcx1 hcy0 hcy1
            go_cut [10, 11] from 42 to 49 (fun v10 v11 wc => v10 = .int .i64 k ∧ ∃ cc : Int, v11 = .int .i64 cc ∧ Hid (cc ≤ 0 ↔ ratOf y ≤ ratOf (p1, p2)) ∧ Hid (0 ≤ cc ↔ ratOf (p1, p2) ≤ ratOf y) ∧ Hid (Blk wc w1.heap.size 24 #[.int .i64 p1, .int .i64 p2]) ∧ Hid (Below w.heap.size w wc))
            case first =>
              go_region_held3 (fun w' : World => (w'.cell? ⟨gy, oy + k * 2, none⟩ = some (.int .i64 y.1) ∧ w'.cell? ⟨gy, oy + k * 2 + 1, none⟩ = some (.int .i64 y.2)) ∧ (w'.cell? ⟨w1.heap.size, 0, none⟩ = some (.int .i64 p1) ∧ w'.cell? ⟨w1.heap.size, 1, none⟩ = some (.int .i64 p2)))
                (first | (with_reducible exact hS))
                (first
                  | (have hz := hm1; go_at_call 10; clear hz hm1; refine (r_Of y _ hVy).mono ?_; rintro e x1 ⟨q1, rfl, hq1, hbb⟩; have hB1 := Lib.hid (hB.out.drew.below hbb hB.out.drew.lt); have hS1 := Lib.hid (And.intro (Below.trans (Below.drew (Below.refl _ wr)) hbb) hgy); have hb1 := Lib.hid (hb.out.drew.trans (hbb.mono hb.out.size)); clear hS; have hS := keepYV ((hS1.out.1.cell (p := ⟨gy, oy + k * 2, none⟩) hgy).trans hq0.out.1) ((hS1.out.1.cell (p := ⟨gy, oy + k * 2 + 1, none⟩) hgy).trans hq0.out.2) hB1.out; clear hbb)
                  | (go_at_call 10; refine (r_Of (p1, p2) _ hVv).mono ?_; rintro e x2 ⟨q2, rfl, hq2, hbb⟩; have hB2 := Lib.hid (hB1.out.below hbb hB1.out.lt); have hS2 := Lib.hid (hS1.out.1.trans (hbb.mono hS1.out.1.size)); have hq12 := hq1.below hbb (Nat.le_refl _); have hb2 := Lib.hid (hb1.out.trans (hbb.mono hb1.out.size)); clear hS; have hS := keepYV ((hS2.out.cell (p := ⟨gy, oy + k * 2, none⟩) hgy).trans hq0.out.1) ((hS2.out.cell (p := ⟨gy, oy + k * 2 + 1, none⟩) hgy).trans hq0.out.2) hB2.out; clear hbb)
                  | (go_at_call 11; refine (r_QCmp q1 q2 (ratOf y) (ratOf (p1, p2)) _ 40 40 hq12 hq2 (ratOf_sz hVy.out) (ratOf_sz hVv.out) (by omega)).mono ?_; rintro e x3 ⟨rfl, hbb⟩; have hB3 := Lib.hid (hB2.out.below hbb hB2.out.lt); have hS3 := Lib.hid (hS2.out.trans (hbb.mono hS2.out.size)); have hb3 := Lib.hid (hb2.out.trans (hbb.mono hb2.out.size)); clear hS; have hS := keepYV ((hS3.out.cell (p := ⟨gy, oy + k * 2, none⟩) hgy).trans hq0.out.1) ((hS3.out.cell (p := ⟨gy, oy + k * 2 + 1, none⟩) hgy).trans hq0.out.2) hB3.out; clear hbb))
              go_wp2_with fail
              go_meet
              exact ⟨rfl, _, rfl, (cmp_le _ _).1, (cmp_le _ _).2, hB3, hb3⟩
            case rest =>
              obtain ⟨rfl, cc, rfl, h1, h2, hB4, hb4⟩ := hcut
              clear hS hB hb hq0 hm1
              have r1 : Hid (belowM ((xs.zip ys).take (k + 1)) (ratOf (p1, p2)) = (bl || decide (cc ≤ 0))) := by show _ = _; rw [hbl2.out, decide_eq_decide.2 h1.out]
              have r2 : Hid (aboveM ((xs.zip ys).take (k + 1)) (ratOf (p1, p2)) = (ab || decide (0 ≤ cc))) := by show _ = _; rw [hab2.out, decide_eq_decide.2 h2.out]
              clear hbl2 hab2 h1 h2
              cases bl <;> cases ab <;> by_cases g1 : cc ≤ 0 <;> by_cases g2 : 0 ≤ cc <;> go_wp2_with fail <;> go_roundw
              all_goals exact ⟨⟨k + 1, by omega, by go_num, by rw [r1.out]; simp [g1], by rw [r2.out]; simp [g2], hB4, hb4⟩, by simp [intOf]; omega⟩
          · have hn2 : 0 ≤ x.1 := by omega
            have hn3 : decide (0 ≤ x.1) = true := by simpa using hn2
            have hbl2 : Hid (belowM ((xs.zip ys).take (k + 1)) (ratOf (p1, p2)) = bl) := by show _ = _; rw [hbl.out]; simp [hneg]
            have hab2 : Hid (aboveM ((xs.zip ys).take (k + 1)) (ratOf (p1, p2)) = ab) := by show _ = _; rw [hab.out]; simp [hneg]
            clear hbl hab
            go_wp2_with fail
            go_roundw
            case rel => exact ⟨k + 1, by omega, by go_num, by rw [hbl2.out], by rw [hab2.out], hB, hb⟩
            case measure => simp [intOf]; omega
        · have hkn : k = n := by omega
          have hend : Hid (belowM (xs.zip ys) (ratOf (p1, p2)) = true ∧ aboveM (xs.zip ys) (ratOf (p1, p2)) = true) := by
            obtain ⟨h1, h2, h3, h4, h5, h6, h7⟩ := hok.out
            exact mean_both (fun p hp => h1 p.1 (List.of_mem_zip hp).1) h5 h6
          have htk : (xs.zip ys).take k = xs.zip ys := List.take_of_length_le (by rw [List.length_zip]; have h1 := hlx.out; have h2 := hly.out; omega)
          rw [htk, hend.out.1, hend.out.2]
          clear htk
          go_wp2_with fail
          refine (law11_known _).mono ?_
          rintro e w3 ⟨rfl, hb6⟩
          have hb7 := Lib.hid (hb.out.trans (hb6.mono hb.out.size))
          clear hb6
          go_wp2_with fail
          go_ret
          exact ⟨rfl, hb7.out⟩
  · have he2 : (er != 0) = true := by simpa using he
    have hb2 := Lib.hid hb2
    clear hB0
    go_wp2_with fail
    refine (law11_known _).mono ?_
    rintro e w3 ⟨rfl, hb6⟩
    have hb7 := Lib.hid (hb2.out.trans (hb6.mono hb2.out.size))
    clear hb6
    go_wp2_with fail
    go_ret
    exact ⟨rfl, hb7.out⟩

end Go.Proofs.Ytgoojlnfobjplaa
