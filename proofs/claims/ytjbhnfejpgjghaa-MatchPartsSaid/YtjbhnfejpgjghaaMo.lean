/- The reference's Validate: the walk (out of Ml.t). -/
import Derived.Test.YtjbhnfejpgjghaaMl
import Derived.Test.YtjbhnfejpgjghaaMm
namespace Go.Proofs.Ytjbhnfejpgjghaa
open Go.RowKit
set_option linter.unusedSimpArgs false
set_option linter.unusedVariables false

def VA1 (wb : World) (n : Nat) (C : Int) (ls : List (List Int)) (v : Value) (wr : World) : Prop := Hid (Below wb.heap.size wb wr) ∧ ∃ i : Nat, i ≤ n ∧ v = .int .i64 (i : Int) ∧ Hid ((ls.take i).all (goodL C) = true)
def VA2 (wb : World) (n : Nat) (C : Int) (l : List Int) (v : Value) (wr : World) : Prop := Hid (Below wb.heap.size wb wr) ∧ ∃ i : Nat, i ≤ n ∧ v = .int .i64 (i : Int) ∧ Hid ((List.range i).all (goodE C l) = true)

set_option maxRecDepth 100000 in
set_option maxHeartbeats 1000000 in
theorem ref_validate (rows cols : Int) (A : Option Addr) (n c : Nat) (ls : List (List Int)) (w : World) (hL : L2 w A n c ls) (hr : In64 rows) (hc : In64 cols) :
    Calls Try.prog 28 #[.agg #[.int .i64 rows, .int .i64 cols, .slice A n c]] w fun e w' => e = .returned (.int .i64 (vErr rows cols ls)) ∧ Below w.heap.size w w' := by
  have hO := Own.one w 33 #[.int .i64 rows, .int .i64 cols, .slice A n c]
  have hln := Lib.hid hL.1
  have hnb : n ≤ 17592186044416 := hL.2.1
  by_cases t0 : rows < 0 ∨ 64 < rows ∨ cols < 0 ∨ 64 < cols ∨ (n : Int) ≠ rows
  · have he : Hid (vErr rows cols ls = 1) := v_head (by rw [hln.out]; exact t0)
    have hb := Lib.hid hO.1
    clear hO
    by_cases t1 : rows < 0
    · have t1' : decide (rows < 0) = true := by simpa using t1
      clear t0
      go_enter Try.func28, Try.ntmps28
      go_wp2_with fail
      go_ret
      rw [he.out]
      exact ⟨rfl, hb.out⟩
    · have t1' : decide (rows < 0) = false := by simpa using t1
      by_cases t2 : 64 < rows
      · have t2' : decide (64 < rows) = true := by simpa using t2
        clear t0
        go_enter Try.func28, Try.ntmps28
        go_wp2_with fail
        go_ret
        rw [he.out]
        exact ⟨rfl, hb.out⟩
      · have t2' : decide (64 < rows) = false := by simpa using t2
        by_cases t3 : cols < 0
        · have t3' : decide (cols < 0) = true := by simpa using t3
          clear t0
          go_enter Try.func28, Try.ntmps28
          go_wp2_with fail
          go_ret
          rw [he.out]
          exact ⟨rfl, hb.out⟩
        · have t3' : decide (cols < 0) = false := by simpa using t3
          by_cases t4 : 64 < cols
          · have t4' : decide (64 < cols) = true := by simpa using t4
            clear t0
            go_enter Try.func28, Try.ntmps28
            go_wp2_with fail
            go_ret
            rw [he.out]
            exact ⟨rfl, hb.out⟩
          · have t4' : decide (64 < cols) = false := by simpa using t4
            have t5' : ((n : Int) != rows) = true := by simp; omega
            clear t0
            go_enter Try.func28, Try.ntmps28
            go_wp2_with fail
            go_ret
            rw [he.out]
            exact ⟨rfl, hb.out⟩
  · have t0' := Lib.hid t0
    have hnr : rows = (n : Int) := by omega
    have hc0 : 0 ≤ cols := by omega
    have hc1 : cols ≤ 64 := by omega
    have hn64 : n ≤ 64 := by omega
    subst hnr
    clear t0
    have hnn : ((n : Int) != (n : Int)) = false := by simp
    have q2 : decide (64 < (n : Int)) = false := by simp; omega
    have q3 : decide (cols < 0) = false := by simp; omega
    have q4 : decide (64 < cols) = false := by simp; omega
    obtain ⟨wb, hwb⟩ : ∃ wb, wb = w.alloc (.cells #[.int .i64 (n : Int), .int .i64 cols, .slice A n c] 33) := ⟨_, rfl⟩
    obtain ⟨m0, m1, m2⟩ := cells3 hO.b0
    have hb := Lib.hid hO.1
    have hLb := hL.below hO.1 (Nat.le_refl _)
    go_enter Try.func28, Try.ntmps28
    go_upto_region 4 with fail
    rw [← hwb] at hb hLb m0 m1 m2 ⊢
    have hlw : w.heap.size < wb.heap.size := by rw [hwb]; exact hO.b0.lt
    clear hO hL hwb m0 m2
    go_loopw [35] (fun v36 wr => VA1 wb n cols ls v36 wr) (fun i _ => n - (intOf i).toNat)
    case atStart => exact ⟨Below.refl _ _, 0, by omega, rfl, by show _ = _; simp⟩
    case round =>
      obtain ⟨hbr, i, hi, rfl, hgi⟩ := hrel
      by_cases hlt : i < n
      · obtain ⟨gA, oA, l, A', n', c', rfl, hgA, hl, hcl, hl1⟩ := hLb.cell hlt
        have hcl := (hbr.out.cell (p := ⟨gA, oA + i, none⟩) hgA).trans hcl
        have hl' := Lib.hid hl
        have hn' : n' ≤ 17592186044416 := hl1.2.1
        have hlen := Lib.hid hl1.1
        clear hl
        go_upto_region 7 with fail
        go_loopw [5] (fun v42 wr => VA2 wb n' cols l v42 wr) (fun i _ => n' - (intOf i).toNat)
        case atStart => exact ⟨hbr, 0, by omega, rfl, by show _ = _; simp⟩
        case round =>
          clear hcl
          obtain ⟨hbs, j, hj, rfl, hgj⟩ := hrel
          have hbx := Lib.hid (hb.out.trans (hbs.out.mono hb.out.size))
          have m1 := (hbs.out.cell (p := ⟨w.heap.size, 1, none⟩) hlw).trans m1
          by_cases hjl : j < n'
          · obtain ⟨gl, ol, x, rfl, hgl, hx, hx64, hcx⟩ := hl1.cell hjl
            have hcx := (hbs.out.cell (p := ⟨gl, ol + j, none⟩) hgl).trans hcx
            have hgx : l.getD j 0 = x := by rw [List.getD_eq_getElem?_getD, hx]; rfl
            by_cases c1 : x < 0
            · have c1' : decide (x < 0) = true := by simpa using c1
              have hge : goodE cols l j = false := by unfold goodE; rw [hgx, c1']; rfl
              have he : Hid (vErr (n : Int) cols ls = 1) := v_bad hl'.out (by rw [hlen.out]; exact hjl) hge
              go_upto_region 9 with fail
              go_quiet (fail)
              go_wp2_with fail
              go_ret
              rw [he.out]
              exact ⟨rfl, bdN hbx.out _⟩
            · have c1' : decide (x < 0) = false := by simpa using c1
              by_cases c2 : cols ≤ x
              · have c2' : decide (cols ≤ x) = true := by simpa using c2
                have hge : goodE cols l j = false := by unfold goodE; rw [hgx, c1', c2']; first | rfl | simp
                have he : Hid (vErr (n : Int) cols ls = 1) := v_bad hl'.out (by rw [hlen.out]; exact hjl) hge
                go_upto_region 9 with fail
                go_quiet (fail)
                go_wp2_with fail
                go_ret
                rw [he.out]
                exact ⟨rfl, bdN hbx.out _⟩
              · have c2' : decide (cols ≤ x) = false := by simpa using c2
                match j, hj, hgj, hjl, hx, hcx, hgx with
                | 0, hj, hgj, hjl, hx, hcx, hgx =>
                  rw [Nat.add_zero] at hcx
                  have hn0 : (0 : Int) < n' := by omega
                  have hge : goodE cols l 0 = true := by unfold goodE; rw [hgx, c1', c2']; rfl
                  have hgj' : Hid ((List.range (0 + 1)).all (goodE cols l) = true) := by
                    show _ = _
                    rw [List.range_succ, List.all_append, hgj.out]
                    simp [hge]
                  clear hge
                  go_upto_region 9 with fail
                  go_quiet (fail)
                  go_wp2_with fail
                  exact ⟨⟨bdN hbs.out _, 1, by omega, rfl, hgj'⟩, by simp [intOf] <;> omega⟩
                | j + 1, hj, hgj, hjl, hx, hcx, hgx =>
                  obtain ⟨gl2, ol2, y, hgl2, -, hy, hy64, hcy⟩ := hl1.cell (j := j) (by omega)
                  obtain ⟨rfl, rfl⟩ : gl = gl2 ∧ ol = ol2 := by simpa using hgl2
                  have hcy := (hbs.out.cell (p := ⟨gl, ol + j, none⟩) hgl).trans hcy
                  have hgy : l.getD j 0 = y := by rw [List.getD_eq_getElem?_getD, hy]; rfl
                  have c3' : decide (0 < (j : Int) + 1) = true := decide_eq_true (by omega)
                  have hjn : (j : Int) < n' := by omega
                  have hjj : (j : Int) + 1 - 1 = (j : Int) := by omega
                  by_cases c4 : x ≤ y
                  · have c4' : decide (x ≤ y) = true := by simpa using c4
                    have hge : goodE cols l (j + 1) = false := by unfold goodE; rw [hgx, c1', c2', Nat.add_sub_cancel, hgy, c4']; try simp
                    have he : Hid (vErr (n : Int) cols ls = 1) := v_bad hl'.out (by rw [hlen.out]; exact hjl) hge
                    go_upto_region 9 with fail
                    go_quiet (fail)
                    go_wp2_with fail
                    go_ret
                    rw [he.out]
                    exact ⟨rfl, bdN hbx.out _⟩
                  · have c4' : decide (x ≤ y) = false := by simpa using c4
                    have hge : goodE cols l (j + 1) = true := by unfold goodE; rw [hgx, c1', c2', Nat.add_sub_cancel, hgy, c4']; try simp
                    have hgj' : Hid ((List.range (j + 1 + 1)).all (goodE cols l) = true) := by
                      show _ = _
                      rw [List.range_succ, List.all_append, hgj.out]
                      simp [hge]
                    clear hge
                    go_upto_region 9 with fail
                    go_quiet (fail)
                    go_wp2_with fail
                    exact ⟨⟨bdN hbs.out _, j + 1 + 1, by omega, by go_num, hgj'⟩, by simp [intOf]; omega⟩
          · have hjn : j = n' := by omega
            have hgl' : goodL cols l = true := by unfold goodL; rw [hlen.out, ← hjn]; exact hgj.out
            have hgi' : Hid ((ls.take (i + 1)).all (goodL cols) = true) := by
              show _ = _
              rw [List.take_add_one, List.all_append, hgi.out, hl'.out]
              simp [hgl']
            clear hgl'
            go_wp2_with fail
            exact ⟨⟨hbs, i + 1, by omega, by go_num, hgi'⟩, by simp [intOf]; omega⟩
      · have hin : i = n := by omega
        have he : Hid (vErr (n : Int) cols ls = 0) := v_good (by rw [hln.out]; exact t0'.out) (by have h := hgi.out; rw [List.take_of_length_le (by rw [hln.out]; omega)] at h; exact h)
        go_wp2_with fail
        go_ret
        rw [he.out]
        exact ⟨rfl, hb.out.trans (hbr.out.mono hb.out.size)⟩

end Go.Proofs.Ytjbhnfejpgjghaa

/- Size. -/
namespace Go.Proofs.Ytjbhnfejpgjghaa
open Go.RowKit
set_option linter.unusedSimpArgs false
set_option linter.unusedVariables false

def sizeS (rows cols : Int) (ls : List (List Int)) : Int × Int := if vErr rows cols ls = 0 then (((sz (nE ls) (fun _ => true) (fun _ => true) rows.toNat cols.toNat : Nat) : Int), 0) else (0, 1)

def PSize (rows cols : Int) (ls : List (List Int)) (w : World) (e : Ending) (w' : World) : Prop :=
  ∃ (n er : Int), e = .returned (.tuple #[.int .i64 n, .int .i64 er]) ∧ Hid (sizeS rows cols ls = (n, er)) ∧ Below w.heap.size w w'

set_option maxRecDepth 100000 in
theorem m_sizeOf (rows cols : Int) (A : Option Addr) (n c : Nat) (ls : List (List Int)) (w : World) (hL : L2 w A n c ls) (hr : In64 rows) (hc : In64 cols) :
    Calls Try.prog 25 #[.agg #[.int .i64 rows, .int .i64 cols, .slice A n c]] w (PSize rows cols ls w) := by
  have hO := Own.one w 33 #[.int .i64 rows, .int .i64 cols, .slice A n c]
  have hV := m_validate rows cols A n c ls _ (hL.below hO.1 (Nat.le_refl _)) hr hc
  have hO' := Lib.hid hO
  rcases vErr_two rows cols ls with h0 | h1
  · rw [h0] at hV
    have hV' := Lib.hid hV
    obtain ⟨e1, e2, hI, hnn⟩ := inc_of h0
    have hN := n2_of hL hnn
    have hS : Hid (sizeS rows cols ls = (((sz (nE ls) (fun _ => true) (fun _ => true) rows.toNat cols.toNat : Nat) : Int), 0)) := if_pos h0
    unfold PSize
    obtain ⟨S, hS2⟩ : ∃ S, S = sizeS rows cols ls := ⟨_, rfl⟩
    rw [← hS2] at hS ⊢
    obtain ⟨R, hR⟩ : ∃ R, R = rows.toNat := ⟨_, rfl⟩
    obtain ⟨C, hC⟩ : ∃ C, C = cols.toNat := ⟨_, rfl⟩
    rw [← hR, ← hC] at hS hI
    rw [← hR] at e1
    rw [← hC] at e2
    have hI' := Lib.hid hI
    have hR64 := hI.1
    clear hV hI hS2 hR hC h0
    subst e1 e2
    go_enter Try.func25, Try.ntmps25
    go_wp2_with (first
      | (go_at_call 27; (with_reducible refine hV'.out.mono ?_); rintro e w2 ⟨rfl, hb2⟩; have hO2 := Lib.hid (hO'.out.call hb2); obtain ⟨m0, m1, m2⟩ := cells3 hO2.out.b0)
      | (go_at_call 39; refine (match_all hI'.out w.heap.size A n c w2 w.heap.size (.cells #[.int .i64 (R : Int), .int .i64 (C : Int), .slice A n c] 33 (0, 0)) ⟨hO2.out.b0, hO2.out.b0.lt⟩ hO2.out.1.size (hN.below hO2.out.1)).mono ?_; rintro e w3 ⟨gr, gc, hg1, hg2, hg3, rfl, hrr, hrc, hb3⟩; have hO3 := Lib.hid (hO2.out.call hb3))
      | (go_at_call 42; refine (m_size gr gc R C _ (by omega) _ hrr).mono ?_; rintro e w4 ⟨rfl, hb4⟩))
    go_ret2
    exact ⟨_, _, rfl, hS, (hO3.out.call hb4).1⟩
  · rw [h1] at hV
    have hV' := Lib.hid hV
    have hS : Hid (sizeS rows cols ls = (0, 1)) := if_neg (by rw [h1]; omega)
    clear hV h1
    unfold PSize
    obtain ⟨S, hS2⟩ : ∃ S, S = sizeS rows cols ls := ⟨_, rfl⟩
    rw [← hS2] at hS ⊢
    clear hS2
    go_enter Try.func25, Try.ntmps25
    go_wp2_with (first
      | (go_at_call 27; (with_reducible refine hV'.out.mono ?_); rintro e w2 ⟨rfl, hb2⟩; have hO2 := Lib.hid (hO'.out.call hb2)))
    go_ret2
    exact ⟨_, _, rfl, hS, hO2.out.1⟩


end Go.Proofs.Ytjbhnfejpgjghaa
