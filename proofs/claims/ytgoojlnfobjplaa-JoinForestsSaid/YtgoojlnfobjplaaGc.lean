/- The reference: whether a graph is one. -/
import Derived.Test.YtgoojlnfobjplaaFe
import Derived.Test.YtgoojlnfobjplaaGb
namespace Go.Proofs.Ytgoojlnfobjplaa
open Go.RowKit Go.Maps
set_option linter.unusedSimpArgs false
set_option linter.unusedVariables false

set_option maxRecDepth 100000 in
theorem ref11_isArc (A : Option Addr) (m c : Nat) (zs : List Int) (n : Int) (w : World) (hL : L1 w A m c zs) :
    Calls Try.prog 65 #[.slice A m c, .int .i64 n] w fun e w' => e = .returned (.bool (isA n zs)) ∧ w = w' := by
  have hzl := Lib.hid hL.1
  have hzb : m ≤ 17592186044416 := hL.2.1
  by_cases h2 : m = 2
  · subst h2
    obtain ⟨x, y, rfl⟩ : ∃ x y, zs = [x, y] := by
      have h := hzl.out
      match zs, h with
      | [x, y], _ => exact ⟨x, y, rfl⟩
    obtain ⟨ga, oa, x', rfl, hga, hx', -, hcx⟩ := hL.cell (j := 0) (by omega)
    obtain ⟨ga', oa', y', hA', -, hy', -, hcy⟩ := hL.cell (j := 1) (by omega)
    obtain ⟨rfl, rfl⟩ : ga = ga' ∧ oa = oa' := by simpa using hA'
    obtain rfl : x = x' := by simpa using hx'
    obtain rfl : y = y' := by simpa using hy'
    rw [Nat.add_zero] at hcx
    clear hx' hy' hA' hL
    by_cases t1 : 0 ≤ x
    · have t1' : decide (0 ≤ x) = true := by simpa using t1
      by_cases t2 : x < n
      · have t2' : decide (x < n) = true := by simpa using t2
        by_cases t3 : 0 ≤ y
        · have t3' : decide (0 ≤ y) = true := by simpa using t3
          have e1 : Hid (isA n [x, y] = decide (y < n)) := by show _ = _; simp [isA, isN, t1, t2, t3]
          go_enter Try.func65, Try.ntmps65
          go_wp2_with fail
          go_ret
          first | exact e1.out.symm | exact e1.out | simp [e1.out]
        · have t3' : decide (0 ≤ y) = false := by simpa using t3
          have e1 : Hid (isA n [x, y] = false) := by show _ = _; simp [isA, isN, t1, t2, t3]
          go_enter Try.func65, Try.ntmps65
          go_wp2_with fail
          go_ret
          first | exact e1.out.symm | exact e1.out | simp [e1.out]
      · have t2' : decide (x < n) = false := by simpa using t2
        have e1 : Hid (isA n [x, y] = false) := by show _ = _; simp [isA, isN, t1, t2]
        go_enter Try.func65, Try.ntmps65
        go_wp2_with fail
        go_ret
        first | exact e1.out.symm | exact e1.out | simp [e1.out]
    · have t1' : decide (0 ≤ x) = false := by simpa using t1
      have e1 : Hid (isA n [x, y] = false) := by show _ = _; simp [isA, isN, t1]
      go_enter Try.func65, Try.ntmps65
      go_wp2_with fail
      go_ret
      first | exact e1.out.symm | exact e1.out | simp [e1.out]
  · have h2n : ((m : Int) == 2) = false := by simp; omega
    have e1 : Hid (isA n zs = false) := by
      have h := hzl.out
      show _ = _
      unfold isA
      split
      · simp at h
        omega
      · rfl
    go_enter Try.func65, Try.ntmps65
    go_wp2_with fail
    go_ret
    first | exact e1.out.symm | exact e1.out | simp [e1.out]

/-- what is wrong with a graph -/
def areE (n : Int) (fs ls : List (List Int)) (rs : List Int) : Int :=
  if badAt n fs ls 2 || rs.any (nN n) then 1 else if 96 < fs.length ∨ 96 < ls.length then 3 else 0

def PAre (w : World) (r : Int) (e : Ending) (w' : World) : Prop := e = .returned (.int .i64 r) ∧ Below w.heap.size w w'

theorem bad_mono1 {n : Int} {fs ls : List (List Int)} {rs : List Int} {i : Nat} (hi : i ≤ 2) (h : badAt n fs ls i = true) : areE n fs ls rs = 1 := by
  have h2 : badAt n fs ls 2 = true := by
    rcases (show i = 0 ∨ i = 1 ∨ i = 2 by omega) with rfl | rfl | rfl
    · simp [badAt] at h ⊢; simp [h]
    · simp [badAt] at h ⊢; rcases h with h | h <;> simp [h]
    · exact h
  unfold areE
  rw [if_pos (by rw [h2]; rfl)]

theorem any_of_at {α : Type} {p : α → Bool} {l : List α} {j : Nat} {x : α} (h : l[j]? = some x) (hp : p x = true) : l.any p = true := by
  rw [List.any_eq_true]
  exact ⟨x, List.mem_of_getElem? h, hp⟩

set_option maxRecDepth 100000 in
theorem ref11_areArcs (n : Int) (A1 A2 A3 : Option Addr) (n1 c1 n2 c2 n3 c3 : Nat) (fs ls : List (List Int)) (rs : List Int) (w : World) (h1 : L2 w A1 n1 c1 fs) (h2 : L2 w A2 n2 c2 ls) (h3 : L1 w A3 n3 c3 rs) (hn : In64 n) :
    Calls Try.prog 39 #[.int .i64 n, .slice A1 n1 c1, .slice A2 n2 c2, .slice A3 n3 c3] w (PAre w (areE n fs ls rs)) := by
  have hb1 : n1 ≤ 17592186044416 := h1.2.1
  have hb2 : n2 ≤ 17592186044416 := h2.2.1
  have hb3 : n3 ≤ 17592186044416 := h3.2.1
  have hl1 := Lib.hid h1.1
  have hl2 := Lib.hid h2.1
  have hl3 := Lib.hid h3.1
  by_cases t1 : n < 1
  · have t1' : decide (n < 1) = true := by simpa using t1
    have he : Hid (areE n fs ls rs = 1) := bad_mono1 (i := 0) (by omega) (by simp [badAt, t1])
    go_enter Try.func39, Try.ntmps39
    go_wp2_with fail
    go_ret
    rw [he.out]
    exact ⟨rfl, Below.refl _ _⟩
  · have t1' : decide (n < 1) = false := by simpa using t1
    by_cases t2 : 64 < n
    · have he : Hid (areE n fs ls rs = 1) := bad_mono1 (i := 0) (by omega) (by simp [badAt, t2])
      go_enter Try.func39, Try.ntmps39
      go_wp2_with fail
      go_ret
      rw [he.out]
      exact ⟨rfl, Below.refl _ _⟩
    · have t2' : decide (64 < n) = false := by simpa using t2
      have hg0 : Hid (badAt n fs ls 0 = false) := by show _ = _; simp [badAt, t1', t2']
      have hbB : Below w.heap.size w (w.alloc (.cells #[.slice A1 n1 c1, .slice A2 n2 c2] 37)) := (Below.refl _ _).alloc (Nat.le_refl _) _
      have hBb : Blk (w.alloc (.cells #[.slice A1 n1 c1, .slice A2 n2 c2] 37)) w.heap.size 37 #[.slice A1 n1 c1, .slice A2 n2 c2] := Blk.new _ _ _
      go_enter Try.func39, Try.ntmps39
      go_wp2_with fail
      obtain ⟨wb, hwb⟩ : ∃ wb, wb = w.alloc (.cells #[.slice A1 n1 c1, .slice A2 n2 c2] 37) := ⟨_, rfl⟩
      rw [← hwb] at hbB hBb ⊢
      clear hwb
      have hbB := Lib.hid hbB
      have H1 := h1.below hbB.out (Nat.le_refl _)
      have H2 := h2.below hbB.out (Nat.le_refl _)
      have H3 := h3.below hbB.out (Nat.le_refl _)
      go_loopw [25] (fun v25 wr => wb = wr ∧ ∃ i : Nat, i ≤ 2 ∧ v25 = .int .i64 i ∧ Hid (badAt n fs ls i = false)) (fun i _ => 2 - (intOf i).toNat)
      case atStart => exact ⟨rfl, 0, by omega, rfl, hg0⟩
      case round =>
        obtain ⟨rfl, i, hi, rfl, hgi⟩ := hrel
        by_cases hlt : i < 2
        · obtain ⟨Ai, ni, ci, li, hci, hLi, hbi⟩ : ∃ A' n' c' l', wb.cell? ⟨w.heap.size, i, none⟩ = some (.slice A' n' c') ∧ L2 wb A' n' c' l' ∧ badAt n fs ls (i + 1) = (badAt n fs ls i || l'.any (nA n)) := by
            rcases (show i = 0 ∨ i = 1 by omega) with rfl | rfl
            · exact ⟨A1, n1, c1, fs, hBb.cell 0, H1, by simp [badAt]⟩
            · exact ⟨A2, n2, c2, ls, hBb.cell 1, H2, by simp [badAt]⟩
          have hbl : ni ≤ 17592186044416 := hLi.2.1
          have hlen := Lib.hid hLi.1
          rw [hgi.out, Bool.false_or] at hbi
          have hbi := Lib.hid hbi
          have hi2 : decide ((i : Int) < 2) = true := by simp; omega
          go_wp2_with fail
          go_loopw [31] (fun v31 wr => wb = wr ∧ ∃ j : Nat, j ≤ ni ∧ v31 = .int .i64 j ∧ Hid ((li.take j).any (nA n) = false)) (fun j _ => ni - (intOf j).toNat)
          case atStart => exact ⟨rfl, 0, by omega, rfl, by show _ = _; simp⟩
          case round =>
            obtain ⟨rfl, j, hj, rfl, hgj⟩ := hrel
            by_cases hltj : j < ni
            · obtain ⟨g, o, zs, A', n', c', rfl, hg, hzs, hcj, hLz⟩ := hLi.cell hltj
              have hzs1 := Lib.hid hzs
              clear hzs
              go_wp2_with fail
              refine (ref11_isArc A' n' c' zs n _ hLz).mono ?_
              rintro e w' ⟨rfl, rfl⟩
              cases hz : isA n zs with
              | true =>
                have hst : Hid ((li.take (j + 1)).any (nA n) = false) := by show _ = _; rw [any_take hzs1.out, hgj.out]; simp [nA, hz]
                go_wp2_with fail
                go_roundw
                case rel => first
                  | exact ⟨by first | rfl | trivial, j + 1, by omega, by go_num, hst⟩
                  | exact ⟨j + 1, by omega, by go_num, hst⟩
                case measure => simp [intOf]; omega
              | false =>
                have he : Hid (areE n fs ls rs = 1) := bad_mono1 (i := i + 1) (by omega) (by rw [hbi.out]; exact any_of_at hzs1.out (by simp [nA, hz]))
                go_wp2_with fail
                go_ret
                rw [he.out]
                exact ⟨rfl, hbB.out⟩
            · have : ni = j := by omega
              subst this
              have hgn : Hid (badAt n fs ls (i + 1) = false) := by show _ = _; rw [hbi.out]; have h := hgj.out; rwa [List.take_of_length_le (by rw [hlen.out]; exact Nat.le_refl _)] at h
              go_wp2_with fail
              go_roundw
              case rel => first
                | exact ⟨by first | rfl | trivial, i + 1, by omega, by go_num, hgn⟩
                | exact ⟨i + 1, by omega, by go_num, hgn⟩
              case measure => simp [intOf]; omega
        · obtain rfl : i = 2 := by omega
          go_wp2_with fail
          go_loopw [43] (fun v43 wr => wb = wr ∧ ∃ j : Nat, j ≤ n3 ∧ v43 = .int .i64 j ∧ Hid ((rs.take j).any (nN n) = false)) (fun j _ => n3 - (intOf j).toNat)
          case atStart => exact ⟨rfl, 0, by omega, rfl, by show _ = _; simp⟩
          case round =>
            obtain ⟨rfl, j, hj, rfl, hgj⟩ := hrel
            by_cases hltj : j < n3
            · obtain ⟨g, o, z, rfl, hg, hz, -, hcz⟩ := H3.cell hltj
              have hz1 := Lib.hid hz
              clear hz
              by_cases s1 : z < 0
              · have s1' : decide (z < 0) = true := by simpa using s1
                have he : Hid (areE n fs ls rs = 1) := by
                  show _ = _
                  unfold areE
                  rw [if_pos (by rw [any_of_at hz1.out (by simp [nN, isN]; omega)]; simp)]
                go_wp2_with fail
                go_ret
                rw [he.out]
                exact ⟨rfl, hbB.out⟩
              · have s1' : decide (z < 0) = false := by simpa using s1
                by_cases s2 : n ≤ z
                · have he : Hid (areE n fs ls rs = 1) := by
                    show _ = _
                    unfold areE
                    rw [if_pos (by rw [any_of_at hz1.out (by simp [nN, isN]; omega)]; simp)]
                  go_wp2_with fail
                  go_ret
                  rw [he.out]
                  exact ⟨rfl, hbB.out⟩
                · have s2' : decide (n ≤ z) = false := by simpa using s2
                  have hst : Hid ((rs.take (j + 1)).any (nN n) = false) := by
                    show _ = _
                    rw [any_take hz1.out, hgj.out]
                    simp [nN, isN]
                    omega
                  go_wp2_with fail
                  go_roundw
                  case rel => first
                    | exact ⟨by first | rfl | trivial, j + 1, by omega, by go_num, hst⟩
                    | exact ⟨j + 1, by omega, by go_num, hst⟩
                  case measure => simp [intOf]; omega
            · have : n3 = j := by omega
              subst this
              have hok : Hid ((badAt n fs ls 2 || rs.any (nN n)) = false) := by
                have h := hgj.out
                rw [List.take_of_length_le (by rw [hl3.out]; exact Nat.le_refl _)] at h
                show _ = _
                rw [hgi.out, h]
                rfl
              by_cases f1 : 96 < n1
              · have f1' : (96 : Int) < (n1 : Int) := by omega
                have he : Hid (areE n fs ls rs = 3) := by
                  show _ = _
                  unfold areE
                  rw [if_neg (by rw [hok.out]; simp), if_pos (.inl (by rw [hl1.out]; exact f1))]
                go_wp2_with fail
                go_ret
                rw [he.out]
                exact ⟨rfl, hbB.out⟩
              · have f1' : decide ((96 : Int) < (n1 : Int)) = false := by simp; omega
                by_cases f2 : 96 < n2
                · have f2' : (96 : Int) < (n2 : Int) := by omega
                  have he : Hid (areE n fs ls rs = 3) := by
                    show _ = _
                    unfold areE
                    rw [if_neg (by rw [hok.out]; simp), if_pos (.inr (by rw [hl2.out]; exact f2))]
                  go_wp2_with fail
                  go_ret
                  rw [he.out]
                  exact ⟨rfl, hbB.out⟩
                · have f2' : decide ((96 : Int) < (n2 : Int)) = false := by simp; omega
                  have he : Hid (areE n fs ls rs = 0) := by
                    show _ = _
                    unfold areE
                    rw [if_neg (by rw [hok.out]; simp), if_neg (by rw [hl1.out, hl2.out]; omega)]
                  go_wp2_with fail
                  go_ret
                  rw [he.out]
                  exact ⟨rfl, hbB.out⟩

end Go.Proofs.Ytgoojlnfobjplaa
