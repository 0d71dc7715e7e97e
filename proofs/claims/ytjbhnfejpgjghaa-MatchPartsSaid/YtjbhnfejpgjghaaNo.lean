/- Tables of orders: which are ones, by the program and by the reference. -/
import Derived.Test.YtjbhnfejpgjghaaMa
namespace Go.Proofs.Ytjbhnfejpgjghaa
open Go.RowKit
set_option linter.unusedSimpArgs false
set_option linter.unusedVariables false

def okX (x : Int) : Bool := !(decide (x < -1) || decide (3 < x))
def okR (n : Nat) (l : List Int) : Bool := (l.length == n) && l.all okX
def isT (ls : List (List Int)) : Bool := !(decide (ls.length < 1) || decide (10 < ls.length)) && ls.all (okR ls.length)

def U1 (wb : World) (n : Nat) (ls : List (List Int)) (v : Value) (wr : World) : Prop := wb = wr ∧ ∃ i : Nat, i ≤ n ∧ v = .int .i64 (i : Int) ∧ Hid ((ls.take i).all (okR n) = true)
def U2 (wb : World) (n : Nat) (l : List Int) (v : Value) (wr : World) : Prop := wb = wr ∧ ∃ i : Nat, i ≤ n ∧ v = .int .i64 (i : Int) ∧ Hid ((l.take i).all okX = true)

theorem isT_head {ls : List (List Int)} (h : ls.length < 1 ∨ 10 < ls.length) : isT ls = false := by
  unfold isT
  rcases h with h | h <;> simp [h]
theorem isT_bad {ls : List (List Int)} {i : Nat} {l : List Int} (hl : ls[i]? = some l) (h : okR ls.length l = false) : isT ls = false := by
  unfold isT
  have h2 : ls.all (okR ls.length) = false := by
    rw [List.all_eq_false]
    exact ⟨l, List.mem_of_getElem? hl, by rw [h]; simp⟩
  rw [h2]; simp
theorem okR_bad {n : Nat} {l : List Int} {j : Nat} {x : Int} (hl : l[j]? = some x) (h : okX x = false) : okR n l = false := by
  unfold okR
  have h2 : l.all okX = false := by
    rw [List.all_eq_false]
    exact ⟨x, List.mem_of_getElem? hl, by rw [h]; simp⟩
  rw [h2]; simp
theorem isT_good {ls : List (List Int)} (h : ¬ (ls.length < 1 ∨ 10 < ls.length)) (hl : ls.all (okR ls.length) = true) : isT ls = true := by
  unfold isT
  rw [hl, decide_eq_false (fun hh => h (.inl hh)), decide_eq_false (fun hh => h (.inr hh))]
  rfl
def oErr (ls : List (List Int)) : Int := if isT ls = true then 0 else 1
theorem oErr_no {ls : List (List Int)} (h : isT ls = false) : oErr ls = 1 := if_neg (by rw [h]; simp)
theorem oErr_yes {ls : List (List Int)} (h : isT ls = true) : oErr ls = 0 := if_pos h
theorem isNo {ls : List (List Int)} (h : isT ls = false) : isT ls = false := h
theorem isYes {ls : List (List Int)} (h : isT ls = true) : isT ls = true := h

set_option maxRecDepth 100000 in
set_option maxHeartbeats 1000000 in
theorem m_orders (A : Option Addr) (n c : Nat) (ls : List (List Int)) (w : World) (hL : L2 w A n c ls) :
    Calls Try.prog 31 #[.slice A n c] w fun e w' => e = .returned (.int .i64 (oErr ls)) ∧ w = w' := by
  have hln := Lib.hid hL.1
  have hnb : n ≤ 17592186044416 := hL.2.1
  by_cases t1 : n < 1
  · have he : Hid (oErr ls = 1) := oErr_no (isT_head (by rw [hln.out]; exact .inl t1))
    have t1' : decide ((n : Int) < 1) = true := decide_eq_true (by omega)
    clear t1
    go_enter Try.func31, Try.ntmps31
    go_wp2_with fail
    go_ret
    rw [he.out]
    exact ⟨rfl, rfl⟩
  · have t1' : decide ((n : Int) < 1) = false := decide_eq_false (by omega)
    by_cases t2 : 10 < n
    · have he : Hid (oErr ls = 1) := oErr_no (isT_head (by rw [hln.out]; exact .inr t2))
      have t2' : decide (10 < (n : Int)) = true := decide_eq_true (by omega)
      clear t1 t2
      go_enter Try.func31, Try.ntmps31
      go_wp2_with fail
      go_ret
      rw [he.out]
      exact ⟨rfl, rfl⟩
    · have t2' : decide (10 < (n : Int)) = false := decide_eq_false (by omega)
      have ht0 := Lib.hid t1
      have ht2 := Lib.hid t2
      have hn10 : n ≤ 10 := by omega
      clear t1 t2
      go_enter Try.func31, Try.ntmps31
      go_upto_region 5 with fail
      go_loopw [18] (fun v wr => U1 w n ls v wr) (fun i _ => n - (intOf i).toNat)
      case atStart => exact ⟨rfl, 0, by omega, rfl, by show _ = _; simp⟩
      case round =>
        obtain ⟨rfl, i, hi, rfl, hgi⟩ := hrel
        by_cases hlt : i < n
        · obtain ⟨gA, oA, l, A', n', c', rfl, hgA, hl, hcl, hl1⟩ := hL.cell hlt
          have hl' := Lib.hid hl
          have hn' : n' ≤ 17592186044416 := hl1.2.1
          have hlen := Lib.hid hl1.1
          clear hl
          by_cases hnn : n' = n
          · subst hnn
            have hne : ((n' : Int) != (n' : Int)) = false := by simp
            go_upto_region 10 with fail
            go_loopw [28] (fun v wr => U2 w n' l v wr) (fun i _ => n' - (intOf i).toNat)
            case atStart => exact ⟨rfl, 0, by omega, rfl, by show _ = _; simp⟩
            case round =>
              obtain ⟨rfl, j, hj, rfl, hgj⟩ := hrel
              by_cases hjl : j < n'
              · obtain ⟨gl, ol, x, rfl, hgl, hx, hx64, hcx⟩ := hl1.cell hjl
                by_cases c1 : x < -1
                · have c1' : decide (x < -1) = true := by simpa using c1
                  have he : Hid (oErr ls = 1) := oErr_no (isT_bad hl'.out (okR_bad hx (by unfold okX; rw [c1']; rfl)))
                  go_wp2_with fail
                  go_ret
                  rw [he.out]
                  exact ⟨rfl, rfl⟩
                · have c1' : decide (x < -1) = false := by simpa using c1
                  by_cases c2 : 3 < x
                  · have c2' : decide (3 < x) = true := by simpa using c2
                    have he : Hid (oErr ls = 1) := oErr_no (isT_bad hl'.out (okR_bad hx (by unfold okX; rw [c1', c2']; rfl)))
                    go_wp2_with fail
                    go_ret
                    rw [he.out]
                    exact ⟨rfl, rfl⟩
                  · have c2' : decide (3 < x) = false := by simpa using c2
                    have hgj' : Hid ((l.take (j + 1)).all okX = true) := by
                      show _ = _
                      rw [List.take_add_one, List.all_append, hgj.out, hx]
                      simp [okX, c1', c2'] <;> omega
                    go_wp2_with fail
                    exact ⟨⟨rfl, j + 1, by omega, by go_num, hgj'⟩, by simp [intOf]; omega⟩
              · have hjn : j = n' := by omega
                have hgl' : okR n' l = true := by
                  unfold okR
                  have h := hgj.out
                  rw [List.take_of_length_le (by rw [hlen.out]; omega)] at h
                  rw [h, hlen.out]
                  simp
                have hgi' : Hid ((ls.take (i + 1)).all (okR n') = true) := by
                  show _ = _
                  rw [List.take_add_one, List.all_append, hgi.out, hl'.out]
                  simp [hgl']
                clear hgl'
                go_wp2_with fail
                exact ⟨⟨rfl, i + 1, by omega, by go_num, hgi'⟩, by simp [intOf]; omega⟩
          · have hne : ((n' : Int) != (n : Int)) = true := by simp; omega
            have he : Hid (oErr ls = 1) := oErr_no (isT_bad hl'.out (by unfold okR; rw [hln.out, hlen.out]; simp [hnn]))
            clear hnn
            go_wp2_with fail
            go_ret
            rw [he.out]
            exact ⟨rfl, rfl⟩
        · have hin : i = n := by omega
          have he : Hid (oErr ls = 0) := oErr_yes (isT_good (by rw [hln.out]; exact fun h => h.elim ht0.out ht2.out) (by have h := hgi.out; rw [List.take_of_length_le (by rw [hln.out]; omega)] at h; rw [hln.out]; exact h))
          go_wp2_with fail
          go_ret
          rw [he.out]
          exact ⟨rfl, rfl⟩

set_option maxRecDepth 100000 in
set_option maxHeartbeats 1000000 in
theorem ref_isTable (A : Option Addr) (n c : Nat) (ls : List (List Int)) (w : World) (hL : L2 w A n c ls) :
    Calls Try.prog 35 #[.slice A n c] w fun e w' => e = .returned (.bool (isT ls)) ∧ w = w' := by
  have hln := Lib.hid hL.1
  have hnb : n ≤ 17592186044416 := hL.2.1
  by_cases t1 : n < 1
  · have he : Hid (isT ls = false) := isNo (isT_head (by rw [hln.out]; exact .inl t1))
    have t1' : decide ((n : Int) < 1) = true := decide_eq_true (by omega)
    clear t1
    go_enter Try.func35, Try.ntmps35
    go_wp2_with fail
    go_ret
    rw [he.out]
    exact ⟨rfl, rfl⟩
  · have t1' : decide ((n : Int) < 1) = false := decide_eq_false (by omega)
    by_cases t2 : 10 < n
    · have he : Hid (isT ls = false) := isNo (isT_head (by rw [hln.out]; exact .inr t2))
      have t2' : decide (10 < (n : Int)) = true := decide_eq_true (by omega)
      clear t1 t2
      go_enter Try.func35, Try.ntmps35
      go_wp2_with fail
      go_ret
      rw [he.out]
      exact ⟨rfl, rfl⟩
    · have t2' : decide (10 < (n : Int)) = false := decide_eq_false (by omega)
      have ht0 := Lib.hid t1
      have ht2 := Lib.hid t2
      have hn10 : n ≤ 10 := by omega
      clear t1 t2
      go_enter Try.func35, Try.ntmps35
      go_upto_region 4 with fail
      go_loopw [17] (fun v wr => U1 w n ls v wr) (fun i _ => n - (intOf i).toNat)
      case atStart => exact ⟨rfl, 0, by omega, rfl, by show _ = _; simp⟩
      case round =>
        obtain ⟨rfl, i, hi, rfl, hgi⟩ := hrel
        by_cases hlt : i < n
        · obtain ⟨gA, oA, l, A', n', c', rfl, hgA, hl, hcl, hl1⟩ := hL.cell hlt
          have hl' := Lib.hid hl
          have hn' : n' ≤ 17592186044416 := hl1.2.1
          have hlen := Lib.hid hl1.1
          clear hl
          by_cases hnn : n' = n
          · subst hnn
            have hne : ((n' : Int) != (n' : Int)) = false := by simp
            go_upto_region 9 with fail
            go_loopw [28] (fun v wr => U2 w n' l v wr) (fun i _ => n' - (intOf i).toNat)
            case atStart => exact ⟨rfl, 0, by omega, rfl, by show _ = _; simp⟩
            case round =>
              obtain ⟨rfl, j, hj, rfl, hgj⟩ := hrel
              by_cases hjl : j < n'
              · obtain ⟨gl, ol, x, rfl, hgl, hx, hx64, hcx⟩ := hl1.cell hjl
                by_cases c1 : x < -1
                · have c1' : decide (x < -1) = true := by simpa using c1
                  have he : Hid (isT ls = false) := isNo (isT_bad hl'.out (okR_bad hx (by unfold okX; rw [c1']; rfl)))
                  go_wp2_with fail
                  go_ret
                  rw [he.out]
                  exact ⟨rfl, rfl⟩
                · have c1' : decide (x < -1) = false := by simpa using c1
                  by_cases c2 : 3 < x
                  · have c2' : decide (3 < x) = true := by simpa using c2
                    have he : Hid (isT ls = false) := isNo (isT_bad hl'.out (okR_bad hx (by unfold okX; rw [c1', c2']; rfl)))
                    go_wp2_with fail
                    go_ret
                    rw [he.out]
                    exact ⟨rfl, rfl⟩
                  · have c2' : decide (3 < x) = false := by simpa using c2
                    have hgj' : Hid ((l.take (j + 1)).all okX = true) := by
                      show _ = _
                      rw [List.take_add_one, List.all_append, hgj.out, hx]
                      simp [okX, c1', c2'] <;> omega
                    go_wp2_with fail
                    exact ⟨⟨rfl, j + 1, by omega, by go_num, hgj'⟩, by simp [intOf]; omega⟩
              · have hjn : j = n' := by omega
                have hgl' : okR n' l = true := by
                  unfold okR
                  have h := hgj.out
                  rw [List.take_of_length_le (by rw [hlen.out]; omega)] at h
                  rw [h, hlen.out]
                  simp
                have hgi' : Hid ((ls.take (i + 1)).all (okR n') = true) := by
                  show _ = _
                  rw [List.take_add_one, List.all_append, hgi.out, hl'.out]
                  simp [hgl']
                clear hgl'
                go_wp2_with fail
                exact ⟨⟨rfl, i + 1, by omega, by go_num, hgi'⟩, by simp [intOf]; omega⟩
          · have hne : ((n' : Int) != (n : Int)) = true := by simp; omega
            have he : Hid (isT ls = false) := isNo (isT_bad hl'.out (by unfold okR; rw [hln.out, hlen.out]; simp [hnn]))
            clear hnn
            go_wp2_with fail
            go_ret
            rw [he.out]
            exact ⟨rfl, rfl⟩
        · have hin : i = n := by omega
          have he : Hid (isT ls = true) := isYes (isT_good (by rw [hln.out]; exact fun h => h.elim ht0.out ht2.out) (by have h := hgi.out; rw [List.take_of_length_le (by rw [hln.out]; omega)] at h; rw [hln.out]; exact h))
          go_wp2_with fail
          go_ret
          rw [he.out]
          exact ⟨rfl, rfl⟩

end Go.Proofs.Ytjbhnfejpgjghaa
