/- Validate: the walk. -/
import Derived.Test.YtjbhnfejpgjghaaMk
namespace Go.Proofs.Ytjbhnfejpgjghaa
open Go.RowKit
set_option linter.unusedSimpArgs false
set_option linter.unusedVariables false

set_option maxRecDepth 100000 in
set_option maxHeartbeats 1000000 in
theorem m_validate (rows cols : Int) (A : Option Addr) (n c : Nat) (ls : List (List Int)) (w : World) (hL : L2 w A n c ls) (hr : In64 rows) (hc : In64 cols) :
    Calls Try.prog 27 #[.agg #[.int .i64 rows, .int .i64 cols, .slice A n c]] w fun e w' => e = .returned (.int .i64 (vErr rows cols ls)) ∧ Below w.heap.size w w' := by
  have hO := Own.one w 33 #[.int .i64 rows, .int .i64 cols, .slice A n c]
  have hln := Lib.hid hL.1
  have hnb : n ≤ 17592186044416 := hL.2.1
  by_cases t0 : rows < 0 ∨ 64 < rows ∨ cols < 0 ∨ 64 < cols ∨ (n : Int) ≠ rows
  · have he : Hid (vErr rows cols ls = 1) := v_head (by rw [hln.out]; exact t0)
    have hb := Lib.hid hO.1
    clear hO
    by_cases t1 : rows < 0
    · have t1' : decide (rows < 0) = true := by simpa using t1
      clear t0
      go_enter Try.func27, Try.ntmps27
      go_wp2_with fail
      go_ret
      rw [he.out]
      exact ⟨rfl, hb.out⟩
    · have t1' : decide (rows < 0) = false := by simpa using t1
      by_cases t2 : 64 < rows
      · have t2' : decide (64 < rows) = true := by simpa using t2
        clear t0
        go_enter Try.func27, Try.ntmps27
        go_wp2_with fail
        go_ret
        rw [he.out]
        exact ⟨rfl, hb.out⟩
      · have t2' : decide (64 < rows) = false := by simpa using t2
        by_cases t3 : cols < 0
        · have t3' : decide (cols < 0) = true := by simpa using t3
          clear t0
          go_enter Try.func27, Try.ntmps27
          go_wp2_with fail
          go_ret
          rw [he.out]
          exact ⟨rfl, hb.out⟩
        · have t3' : decide (cols < 0) = false := by simpa using t3
          by_cases t4 : 64 < cols
          · have t4' : decide (64 < cols) = true := by simpa using t4
            clear t0
            go_enter Try.func27, Try.ntmps27
            go_wp2_with fail
            go_ret
            rw [he.out]
            exact ⟨rfl, hb.out⟩
          · have t4' : decide (64 < cols) = false := by simpa using t4
            have t5' : ((n : Int) != rows) = true := by simp; omega
            clear t0
            go_enter Try.func27, Try.ntmps27
            go_wp2_with fail
            go_ret
            rw [he.out]
            exact ⟨rfl, hb.out⟩
  · have t0' := Lib.hid t0
    have hnr : rows = (n : Int) := by omega
    have hc0 : 0 ≤ cols := by omega
    have hc1 : cols ≤ 64 := by omega
    have hn64 : n ≤ 64 := by omega
    subst hnr
    clear t0
    have hnn : ((n : Int) != (n : Int)) = false := by simp
    have q2 : decide (64 < (n : Int)) = false := by simp; omega
    have q3 : decide (cols < 0) = false := by simp; omega
    have q4 : decide (64 < cols) = false := by simp; omega
    obtain ⟨wb, hwb⟩ : ∃ wb, wb = w.alloc (.cells #[.int .i64 (n : Int), .int .i64 cols, .slice A n c] 33) := ⟨_, rfl⟩
    obtain ⟨m0, m1, m2⟩ := cells3 hO.b0
    have hb := Lib.hid hO.1
    have hLb := hL.below hO.1 (Nat.le_refl _)
    go_enter Try.func27, Try.ntmps27
    go_upto_region 4 with fail
    rw [← hwb] at hb hLb m0 m1 m2 ⊢
    clear hO hL hwb m0 m2
    go_loopw [36] (fun v36 wr => V1 wb n cols ls v36 wr) (fun i _ => n - (intOf i).toNat)
    case atStart => exact ⟨rfl, 0, by omega, rfl, by show _ = _; simp⟩
    case round =>
      obtain ⟨rfl, i, hi, rfl, hgi⟩ := hrel
      by_cases hlt : i < n
      · obtain ⟨gA, oA, l, A', n', c', rfl, hgA, hl, hcl, hl1⟩ := hLb.cell hlt
        have hl' := Lib.hid hl
        have hn' : n' ≤ 17592186044416 := hl1.2.1
        have hlen := Lib.hid hl1.1
        clear hl
        go_upto_region 7 with fail
        go_loopw [42] (fun v42 wr => V2 wb n' cols l v42 wr) (fun i _ => n' - (intOf i).toNat)
        case atStart => exact ⟨rfl, 0, by omega, rfl, by show _ = _; simp⟩
        case round =>
          obtain ⟨rfl, j, hj, rfl, hgj⟩ := hrel
          by_cases hjl : j < n'
          · obtain ⟨gl, ol, x, rfl, hgl, hx, hx64, hcx⟩ := hl1.cell hjl
            have hgx : l.getD j 0 = x := by rw [List.getD_eq_getElem?_getD, hx]; rfl
            by_cases c1 : x < 0
            · have c1' : decide (x < 0) = true := by simpa using c1
              have hge : goodE cols l j = false := by unfold goodE; rw [hgx, c1']; rfl
              have he : Hid (vErr (n : Int) cols ls = 1) := v_bad hl'.out (by rw [hlen.out]; exact hjl) hge
              go_wp2_with fail
              go_ret
              rw [he.out]
              exact ⟨rfl, hb.out⟩
            · have c1' : decide (x < 0) = false := by simpa using c1
              by_cases c2 : cols ≤ x
              · have c2' : decide (cols ≤ x) = true := by simpa using c2
                have hge : goodE cols l j = false := by unfold goodE; rw [hgx, c1', c2']; first | rfl | simp
                have he : Hid (vErr (n : Int) cols ls = 1) := v_bad hl'.out (by rw [hlen.out]; exact hjl) hge
                go_wp2_with fail
                go_ret
                rw [he.out]
                exact ⟨rfl, hb.out⟩
              · have c2' : decide (cols ≤ x) = false := by simpa using c2
                match j, hj, hgj, hjl, hx, hcx, hgx with
                | 0, hj, hgj, hjl, hx, hcx, hgx =>
                  rw [Nat.add_zero] at hcx
                  have hn0 : (0 : Int) < n' := by omega
                  have hge : goodE cols l 0 = true := by unfold goodE; rw [hgx, c1', c2']; rfl
                  have hgj' : Hid ((List.range (0 + 1)).all (goodE cols l) = true) := by
                    show _ = _
                    rw [List.range_succ, List.all_append, hgj.out]
                    simp [hge]
                  clear hge
                  go_wp2_with fail
                  exact ⟨⟨rfl, 1, by omega, rfl, hgj'⟩, by simp [intOf] <;> omega⟩
                | j + 1, hj, hgj, hjl, hx, hcx, hgx =>
                  obtain ⟨gl2, ol2, y, hgl2, -, hy, hy64, hcy⟩ := hl1.cell (j := j) (by omega)
                  obtain ⟨rfl, rfl⟩ : gl = gl2 ∧ ol = ol2 := by simpa using hgl2
                  have hgy : l.getD j 0 = y := by rw [List.getD_eq_getElem?_getD, hy]; rfl
                  have c3' : decide (0 < (j : Int) + 1) = true := decide_eq_true (by omega)
                  have hjn : (j : Int) < n' := by omega
                  have hjj : (j : Int) + 1 - 1 = (j : Int) := by omega
                  by_cases c4 : x ≤ y
                  · have c4' : decide (x ≤ y) = true := by simpa using c4
                    have hge : goodE cols l (j + 1) = false := by unfold goodE; rw [hgx, c1', c2', Nat.add_sub_cancel, hgy, c4']; try simp
                    have he : Hid (vErr (n : Int) cols ls = 1) := v_bad hl'.out (by rw [hlen.out]; exact hjl) hge
                    go_wp2_with fail
                    go_ret
                    rw [he.out]
                    exact ⟨rfl, hb.out⟩
                  · have c4' : decide (x ≤ y) = false := by simpa using c4
                    have hge : goodE cols l (j + 1) = true := by unfold goodE; rw [hgx, c1', c2', Nat.add_sub_cancel, hgy, c4']; try simp
                    have hgj' : Hid ((List.range (j + 1 + 1)).all (goodE cols l) = true) := by
                      show _ = _
                      rw [List.range_succ, List.all_append, hgj.out]
                      simp [hge]
                    clear hge
                    go_wp2_with fail
                    exact ⟨⟨rfl, j + 1 + 1, by omega, by go_num, hgj'⟩, by simp [intOf]; omega⟩
          · have hjn : j = n' := by omega
            have hgl' : goodL cols l = true := by unfold goodL; rw [hlen.out, ← hjn]; exact hgj.out
            have hgi' : Hid ((ls.take (i + 1)).all (goodL cols) = true) := by
              show _ = _
              rw [List.take_add_one, List.all_append, hgi.out, hl'.out]
              simp [hgl']
            clear hgl'
            go_wp2_with fail
            exact ⟨⟨rfl, i + 1, by omega, by go_num, hgi'⟩, by simp [intOf]; omega⟩
      · have hin : i = n := by omega
        have he : Hid (vErr (n : Int) cols ls = 0) := v_good (by rw [hln.out]; exact t0'.out) (by have h := hgi.out; rw [List.take_of_length_le (by rw [hln.out]; omega)] at h; exact h)
        go_wp2_with fail
        go_ret
        rw [he.out]
        exact ⟨rfl, hb.out⟩

end Go.Proofs.Ytjbhnfejpgjghaa
