/- The forest of a graph: whether the input is right. -/
import Derived.Test.YtgoojlnfobjplaaFd
import Derived.Deep.CutRange
namespace Go.Proofs.Ytgoojlnfobjplaa
open Go.RowKit Go.Maps
set_option linter.unusedSimpArgs false
set_option linter.unusedVariables false

def nA (n : Int) (zs : List Int) : Bool := !isA n zs
def nN (n : Int) (z : Int) : Bool := !isN n z

/-- whether something is wrong in the first i lists -/
def badAt (n : Int) (fs ls : List (List Int)) (i : Nat) : Bool := (decide (n < 1) || decide (64 < n)) || (decide (1 ≤ i) && fs.any (nA n)) || (decide (2 ≤ i) && ls.any (nA n))

theorem any_take {α : Type} {p : α → Bool} {l : List α} {j : Nat} {x : α} (h : l[j]? = some x) : (l.take (j + 1)).any p = ((l.take j).any p || p x) := by
  rw [List.take_add_one, h]
  simp

theorem good_of {n : Int} {fs ls : List (List Int)} {rs : List Int} (h : false = (badAt n fs ls 2 || rs.any (nN n))) : ∃ N : Nat, n = N ∧ 1 ≤ N ∧ N ≤ 64 ∧ (∀ a ∈ fs, isA n a = true) ∧ (∀ a ∈ ls, isA n a = true) ∧ ∀ r ∈ rs, isN n r = true := by
  have h := h.symm
  simp [badAt, nA, nN] at h
  obtain ⟨⟨⟨⟨h1, h2⟩, h3⟩, h4⟩, h5⟩ := h
  exact ⟨n.toNat, by omega, by omega, by omega, h3, h4, h5⟩

/-- what came out: lists, and what is wrong, if anything is -/
def PForest (w : World) (n n1 n2 : Int) (e : Ending) (w' : World) : Prop :=
  ∃ A lb cb C lo co er, e = .returned (.tuple #[.slice A lb cb, .slice C lo co, .int .i64 er]) ∧ Below w.heap.size w w' ∧ (er = 0 → n1 + n2 - (lb : Int) + (lo : Int) = n) ∧ lb ≤ 1000 ∧ lo ≤ 1000

set_option maxRecDepth 100000 in
set_option maxHeartbeats 4000000 in
theorem join_Forest (n : Int) (A1 A2 A3 : Option Addr) (n1 c1 n2 c2 n3 c3 : Nat) (fs ls : List (List Int)) (rs : List Int) (w : World) (h1 : L2 w A1 n1 c1 fs) (h2 : L2 w A2 n2 c2 ls) (h3 : L1 w A3 n3 c3 rs) (hn : In64 n) :
    Calls Try.prog 12 #[.int .i64 n, .slice A1 n1 c1, .slice A2 n2 c2, .slice A3 n3 c3] w (PForest w n n1 n2) := by
  have hb1 : n1 ≤ 17592186044416 := h1.2.1
  have hb2 : n2 ≤ 17592186044416 := h2.2.1
  have hb3 : n3 ≤ 17592186044416 := h3.2.1
  have hl1 := Lib.hid h1.1
  have hl2 := Lib.hid h2.1
  have hl3 := Lib.hid h3.1
  have hO := Own.one w 3 #[.int .i64 n]
  have hc0 := hO.b0.cell 0
  have hO := Lib.hid hO
  have hmm := @run_makeMap Try.prog
  go_enter Try.func12, Try.ntmps12
  go_upto_region 1 with fail
  go_cut [11] from 36 (fun v11 wc => Hid (Own w [(3, #[.int .i64 n])] wc) ∧ v11 = .bool (badAt n fs ls 0))
  case first =>
    by_cases h0 : n < 1
    · have h0' : decide (n < 1) = true := by simpa using h0
      go_wp2_with fail
      go_meet
      exact ⟨hO, by simp [badAt, h0]⟩
    · have h0' : decide (n < 1) = false := by simpa using h0
      go_wp2_with fail
      go_meet
      exact ⟨hO, by simp [badAt, h0']⟩
  case rest =>
    obtain ⟨hO', rfl⟩ := hcut
    clear hO hc0
    have hOb := Lib.hid (hO'.out.more (.cells #[.slice A1 n1 c1, .slice A2 n2 c2] 37))
    have hBb : Blk (wc.alloc (.cells #[.slice A1 n1 c1, .slice A2 n2 c2] 37)) wc.heap.size 37 #[.slice A1 n1 c1, .slice A2 n2 c2] := Blk.new _ _ _
    go_wp2_with fail
    obtain ⟨wb, hwb⟩ : ∃ wb, wb = wc.alloc (.cells #[.slice A1 n1 c1, .slice A2 n2 c2] 37) := ⟨_, rfl⟩
    rw [← hwb] at hOb hBb ⊢
    clear hwb hO'
    have hcn : wb.cell? ⟨w.heap.size, 0, none⟩ = some (.int .i64 n) := hOb.out.b0.cell 0
    have H1 := h1.below hOb.out.1 (Nat.le_refl _)
    have H2 := h2.below hOb.out.1 (Nat.le_refl _)
    have H3 := h3.below hOb.out.1 (Nat.le_refl _)
    go_loopw [11, 47] (fun v11 v47 wr => wb = wr ∧ ∃ i : Nat, i ≤ 2 ∧ v47 = .int .i64 i ∧ v11 = .bool (badAt n fs ls i)) (fun _ i _ => 2 - (intOf i).toNat)
    case atStart => exact ⟨rfl, 0, by omega, rfl, rfl⟩
    case round =>
      obtain ⟨rfl, i, hi, rfl, rfl⟩ := hrel
      by_cases hlt : i < 2
      · obtain ⟨Ai, ni, ci, li, hci, hLi, hbi⟩ : ∃ A' n' c' l', wb.cell? ⟨wc.heap.size, i, none⟩ = some (.slice A' n' c') ∧ L2 wb A' n' c' l' ∧ badAt n fs ls (i + 1) = (badAt n fs ls i || l'.any (nA n)) := by
          rcases (show i = 0 ∨ i = 1 by omega) with rfl | rfl
          · exact ⟨A1, n1, c1, fs, hBb.cell 0, H1, by simp [badAt]⟩
          · exact ⟨A2, n2, c2, ls, hBb.cell 1, H2, by simp [badAt]⟩
        have hbl : ni ≤ 17592186044416 := hLi.2.1
        have hlen := Lib.hid hLi.1
        have hbi := Lib.hid hbi
        obtain ⟨b0, hb0⟩ : ∃ b0, b0 = badAt n fs ls i := ⟨_, rfl⟩
        rw [← hb0] at hbi ⊢
        clear hb0
        have hi2 : decide ((i : Int) < 2) = true := by simp; omega
        go_wp2_with fail
        go_loopw [11, 53] (fun v11 v53 wr => wb = wr ∧ ∃ j : Nat, j ≤ ni ∧ v53 = .int .i64 j ∧ v11 = .bool (b0 || (li.take j).any (nA n))) (fun _ j _ => ni - (intOf j).toNat)
        case atStart => exact ⟨rfl, 0, by omega, rfl, by simp⟩
        case round =>
          obtain ⟨rfl, j, hj, rfl, rfl⟩ := hrel
          by_cases hltj : j < ni
          · obtain ⟨g, o, zs, A', n', c', rfl, hg, hzs, hcj, hLz⟩ := hLi.cell hltj
            have hst' := any_take (p := nA n) hzs
            have hzl := Lib.hid hLz.1
            obtain ⟨b, hb'⟩ : ∃ b, b = (b0 || (li.take j).any (nA n)) := ⟨_, rfl⟩
            rw [← hb']
            have hst : Hid ((b0 || (li.take (j + 1)).any (nA n)) = (b || nA n zs)) := by show _ = _; rw [hst', ← Bool.or_assoc, ← hb']
            have hz0 : n' ≤ 17592186044416 := hLz.2.1
            clear hst' hb' hzs
            cases b with
            | true =>
              go_wp2_with fail
              go_roundw
              case rel => exact ⟨by first | rfl | trivial, j + 1, by omega, by go_num, by rw [hst.out]; rfl⟩
              case measure => simp [intOf]; omega
            | false =>
              by_cases h2' : n' = 2
              · subst h2'
                obtain ⟨x, y, rfl⟩ : ∃ x y, zs = [x, y] := by
                  have h := hzl.out
                  match zs, h with
                  | [x, y], _ => exact ⟨x, y, rfl⟩
                obtain ⟨ga, oa, x', rfl, hga, hx', -, hcx⟩ := hLz.cell (j := 0) (by omega)
                obtain ⟨ga', oa', y', hA', -, hy', -, hcy⟩ := hLz.cell (j := 1) (by omega)
                obtain ⟨rfl, rfl⟩ : ga = ga' ∧ oa = oa' := by simpa using hA'
                obtain rfl : x = x' := by simpa using hx'
                obtain rfl : y = y' := by simpa using hy'
                rw [Nat.add_zero] at hcx
                clear hx' hy' hA'
                have hm1 : Hid (1 = 1) := rfl
                cases hnx : isN n x with
                | false =>
                  have hst2 : Hid ((b0 || (li.take (j + 1)).any (nA n)) = true) := by show _ = _; rw [hst.out]; simp [nA, isA, hnx]
                  go_wp2_with (go_at_call 36; refine (join_isNode w.heap.size n x _ hcn).mono ?_; rintro e w' ⟨rfl, rfl⟩)
                  go_roundw
                  case rel => exact ⟨by first | rfl | trivial, j + 1, by omega, by go_num, by rw [hst2.out]⟩
                  case measure => simp [intOf]; omega
                | true =>
                  have hst2 : Hid ((b0 || (li.take (j + 1)).any (nA n)) = !isN n y) := by show _ = _; rw [hst.out]; simp [nA, isA, hnx]
                  go_wp2_with (first
                    | (have hz := hm1; go_at_call 36; clear hz hm1; refine (join_isNode w.heap.size n x _ hcn).mono ?_; rintro e w' ⟨rfl, rfl⟩)
                    | (go_at_call 36; refine (join_isNode w.heap.size n y _ hcn).mono ?_; rintro e w' ⟨rfl, rfl⟩))
                  go_roundw
                  case rel => exact ⟨by first | rfl | trivial, j + 1, by omega, by go_num, by rw [hst2.out]⟩
                  case measure => simp [intOf]; omega
              · have h2n : ((n' : Int) != 2) = true := by simp; omega
                have hnz : nA n zs = true := by
                  have h := hzl.out
                  unfold nA isA
                  split
                  · simp at h
                    omega
                  · rfl
                go_wp2_with fail
                go_roundw
                case rel => exact ⟨by first | rfl | trivial, j + 1, by omega, by go_num, by rw [hst.out, hnz]; rfl⟩
                case measure => simp [intOf]; omega
          · have : ni = j := by omega
            subst this
            go_wp2_with fail
            go_roundw
            case rel => exact ⟨by first | rfl | trivial, i + 1, by omega, by go_num, by rw [hbi.out, List.take_of_length_le (by rw [hlen.out]; exact Nat.le_refl _)]⟩
            case measure => simp [intOf]; omega
      · obtain rfl : i = 2 := by omega
        obtain ⟨b0, hb0⟩ : ∃ b0, b0 = badAt n fs ls 2 := ⟨_, rfl⟩
        rw [← hb0]
        have hb0 := Lib.hid hb0
        go_wp2_with fail
        go_loopw [11, 83] (fun v11 v83 wr => wb = wr ∧ ∃ j : Nat, j ≤ n3 ∧ v83 = .int .i64 j ∧ v11 = .bool (b0 || (rs.take j).any (nN n))) (fun _ j _ => n3 - (intOf j).toNat)
        case atStart => exact ⟨rfl, 0, by omega, rfl, by simp⟩
        case round =>
          obtain ⟨rfl, j, hj, rfl, rfl⟩ := hrel
          by_cases hltj : j < n3
          · obtain ⟨g, o, z, rfl, hg, hz, -, hcz⟩ := H3.cell hltj
            have hst' := any_take (p := nN n) hz
            obtain ⟨b, hb'⟩ : ∃ b, b = (b0 || (rs.take j).any (nN n)) := ⟨_, rfl⟩
            rw [← hb']
            have hst : Hid ((b0 || (rs.take (j + 1)).any (nN n)) = (b || nN n z)) := by show _ = _; rw [hst', ← Bool.or_assoc, ← hb']
            clear hst' hb' hz
            cases b with
            | true =>
              go_wp2_with fail
              go_roundw
              case rel => exact ⟨by first | rfl | trivial, j + 1, by omega, by go_num, by rw [hst.out]; rfl⟩
              case measure => simp [intOf]; omega
            | false =>
              go_wp2_with (go_at_call 36; refine (join_isNode w.heap.size n z _ hcn).mono ?_; rintro e w' ⟨rfl, rfl⟩)
              go_roundw
              case rel =>
                (repeat apply Exists.intro)
                exact ⟨⟨trivial, j + 1, by omega, by go_num, by rw [hst.out]; try rfl⟩, rfl⟩
              case measure => simp [intOf]; omega
          · have : n3 = j := by omega
            subst this
            have hbad : Hid ((b0 || (rs.take n3).any (nN n)) = (badAt n fs ls 2 || rs.any (nN n))) := by show _ = _; rw [hb0.out, List.take_of_length_le (by rw [hl3.out]; exact Nat.le_refl _)]
            obtain ⟨b, hb'⟩ : ∃ b, b = (b0 || (rs.take n3).any (nN n)) := ⟨_, rfl⟩
            rw [← hb'] at hbad ⊢
            clear hb' hb0
            cases b with
            | true =>
              go_wp2_with fail
              go_ret3
              exact ⟨none, 0, 0, none, 0, 0, 1, rfl, hOb.out.1, fun h => by omega, by omega, by omega⟩
            | false =>
              by_cases hf1 : 96 < n1
              · have hf1' : (96 : Int) < (n1 : Int) := by omega
                go_wp2_with fail
                go_ret3
                exact ⟨none, 0, 0, none, 0, 0, 3, rfl, hOb.out.1, fun h => by omega, by omega, by omega⟩
              · have hf1' : decide ((96 : Int) < (n1 : Int)) = false := by simp; omega
                by_cases hf2 : 96 < n2
                · have hf2' : (96 : Int) < (n2 : Int) := by omega
                  go_wp2_with fail
                  go_ret3
                  exact ⟨none, 0, 0, none, 0, 0, 3, rfl, hOb.out.1, fun h => by omega, by omega, by omega⟩
                · have hf2' : decide ((96 : Int) < (n2 : Int)) = false := by simp; omega
                  obtain ⟨N, rfl, hN1, hN2, hFA, hLA, hRN⟩ := good_of hbad.out
                  have hFA := Lib.hid hFA
                  have hLA := Lib.hid hLA
                  have hRN := Lib.hid hRN
                  clear hbad hf1' hf2'
                  go_wp2_with fail
                  have hbs := hOb.out.b0.lt
                  have hF0 : FT w (wb.heap.size + 1) wb.heap.size N 0 (fun _ => none) ((wb.alloc (.map #[] 0)).alloc (.cells #[.map (some wb.heap.size)] 66)) := by
                    refine ⟨(hOb.out.more _).more _, ?_, (UM.new wb).call ((Below.refl _ _).alloc (Nat.le_refl _) _)⟩
                    have h := Blk.new (wb.alloc (.map #[] 0)) 66 #[.map (some wb.heap.size)]
                    simpa using h
                  obtain ⟨B, hB⟩ : ∃ B, B = wb.heap.size := ⟨_, rfl⟩
                  rw [← hB] at hF0 hbs ⊢
                  obtain ⟨wF, hwF⟩ : ∃ wF, wF = (wb.alloc (.map #[] 0)).alloc (.cells #[.map (some B)] 66) := ⟨_, rfl⟩
                  rw [← hwF] at hF0 ⊢
                  have hN3 : (1 : Int) ≤ (N : Int) := by omega
                  have hBj : B + 1 ≠ B := by omega
                  have hBw : w.heap.size + 1 ≤ B := hbs
                  clear hwF hB H1 H2 H3 hOb hBb hcn hbs
                  go_loopw [110] (fun v110 wr => ∃ (i k : Nat) (f : Nat → Option Nat) (R : Nat → Nat), i ≤ n1 ∧ k ≤ i ∧ v110 = .int .i64 i ∧ Hid (FT w (B + 1) B N k f wr) ∧ Hid (UF N f R ∧ trees N R + i = N)) (fun i _ => n1 - (intOf i).toNat)
                  case atStart => exact ⟨0, 0, _, fun x => x, by omega, by omega, rfl, hF0, UF.start N, by rw [trees_start]; rfl⟩
                  case round =>
                    clear hF0
                    obtain ⟨i, k, f, R, hi, hki, rfl, hF, hUF⟩ := hrel
                    by_cases hlt4 : i < n1
                    · obtain ⟨g, o, zs, A', n', c', rfl, hg, hzs, hcz', hLz⟩ := h1.cell hlt4
                      obtain ⟨x, y, rfl, hx, hy⟩ := isA_nodes (hFA.out _ (List.mem_of_getElem? hzs))
                      obtain rfl : 2 = n' := hLz.1
                      obtain ⟨ga, oa, x', rfl, hga, hx', -, hcx'⟩ := hLz.cell (j := 0) (by omega)
                      obtain ⟨ga', oa', y', hA', -, hy', -, hcy'⟩ := hLz.cell (j := 1) (by omega)
                      obtain ⟨rfl, rfl⟩ : ga = ga' ∧ oa = oa' := by simpa using hA'
                      obtain rfl : (x : Int) = x' := by simpa using hx'
                      obtain rfl : (y : Int) = y' := by simpa using hy'
                      rw [Nat.add_zero] at hcx'
                      have hcz := (hF.out.1.1.cell (p := ⟨g, o + i, none⟩) hg).trans hcz'
                      have hcx := (hF.out.1.1.cell (p := ⟨ga, oa, none⟩) hga).trans hcx'
                      have hcy := (hF.out.1.1.cell (p := ⟨ga, oa + 1, none⟩) hga).trans hcy'
                      have hcj := hF.out.cell
                      have hS : (fun w' : World => w'.cell? ⟨B + 1, 0, none⟩ = some (.map (some B)) ∧ w'.cell? ⟨ga, oa, none⟩ = some (.int .i64 (x : Int)) ∧ w'.cell? ⟨ga, oa + 1, none⟩ = some (.int .i64 (y : Int))) wr.drew := ⟨hcj, hcx, hcy⟩
                      obtain ⟨dx, hTx'⟩ := hUF.out.1.at hx
                      obtain ⟨dy, hTy'⟩ := hUF.out.1.at hy
                      have hTx := Lib.hid hTx'
                      have hTy := Lib.hid hTy'
                      have hv : Hid (∀ x u, f x = some u → u < 1000) := fun x u h => by have := hUF.out.1.2 x u h; omega
                      have hRx := hUF.out.1.lt hx
                      have hRy := hUF.out.1.lt hy
                      have hcx1 := Lib.hid hcx'
                      have hcy1 := Lib.hid hcy'
                      clear hx' hy' hA' hzs hLz hTx' hTy' hcz' hcx' hcy'
                      go_wp2_with fail
                      go_region_held3 (fun w' : World => w'.cell? ⟨B + 1, 0, none⟩ = some (.map (some B)) ∧ w'.cell? ⟨ga, oa, none⟩ = some (.int .i64 (x : Int)) ∧ w'.cell? ⟨ga, oa + 1, none⟩ = some (.int .i64 (y : Int)))
                        (first | (with_reducible exact hS))
                        (first
                          | (go_at_call 37; refine (join_join B k f x dx (R x) y dy (R y) _ hF.out.2.2.drew hTx hTy (by omega) (by omega) (by omega) (by omega) hv (by omega)).mono ?_; rintro e wJ ⟨cJ, rfl, hPJ, hgJ⟩; have hkp := Lib.hid (hF.out.drew.keep hgJ hBw hBj); clear hS; have hS : (fun w' : World => w'.cell? ⟨B + 1, 0, none⟩ = some (.map (some B)) ∧ w'.cell? ⟨ga, oa, none⟩ = some (.int .i64 (x : Int)) ∧ w'.cell? ⟨ga, oa + 1, none⟩ = some (.int .i64 (y : Int))) wJ := ⟨hkp.out.2, (hkp.out.1.cell (p := ⟨ga, oa, none⟩) hga).trans hcx1.out, (hkp.out.1.cell (p := ⟨ga, oa + 1, none⟩) hga).trans hcy1.out⟩))
                      rcases hPJ.out with ⟨rfl, hne, hU⟩ | ⟨rfl, -, -⟩
                      · have hF2 := Lib.hid (hF.out.drew.join hgJ hBw hBj hU)
                        have hUF2 : Hid (UF N (upd f (R y) (some (R x))) (jn R x y) ∧ trees N (jn R x y) + (i + 1) = N) := ⟨hUF.out.1.join hx hy hne, by have h := hUF.out.1.fewer hx hy hne; have h' := hUF.out.2; omega⟩
                        clear hPJ hkp hS hne hU
                        go_wp2_with fail
                        go_roundw
                        case rel => exact ⟨i + 1, k + 1, _, jn R x y, by omega, by omega, by go_num, hF2, hUF2⟩
                        case measure => simp [intOf]; omega
                      · go_wp2_with fail
                        go_ret3
                        exact ⟨none, 0, 0, none, 0, 0, 7, rfl, hkp.out.1, fun h => by omega, by omega, by omega⟩
                    · have : n1 = i := by omega
                      subst this
                      go_wp2_with fail
                      have hG0 := BM.new wr
                      obtain ⟨Bg, hBg⟩ : ∃ Bg, Bg = wr.heap.size := ⟨_, rfl⟩
                      have hlt : B + 1 < wr.heap.size := hF.out.2.1.lt
                      have hI0 := BM.new (wr.alloc (.map #[] 0))
                      have hsz : (wr.alloc (.map #[] 0)).heap.size = wr.heap.size + 1 := by simp
                      rw [hsz, ← hBg] at hI0
                      rw [← hBg] at hG0 hlt ⊢
                      have hG0 := hG0.call ((Below.refl _ _).alloc (Nat.le_refl _) (.map #[] 0))
                      have hF1 := (hF.out.call ((Below.refl _ _).alloc (Nat.le_refl _) (.map #[] 0))).call ((Below.refl _ _).alloc (Nat.le_refl _) (.map #[] 0))
                      obtain ⟨wM, hwM⟩ : ∃ wM, wM = (wr.alloc (.map #[] 0)).alloc (.map #[] 0) := ⟨_, rfl⟩
                      rw [← hwM] at hG0 hI0 hF1 ⊢
                      have hF1 := Lib.hid hF1
                      clear hwM hsz hBg hF
                      have hUFx := Lib.hid hUF.out.1
                      have htr := Lib.hid hUF.out.2
                      have hv : Hid (∀ x u, f x = some u → u < 1000) := fun x u h => by have := hUFx.out.2 x u h; omega
                      clear hUF
                      go_loopw [128] (R5 w B N n3 k Bg f R) (fun i _ => n3 - (intOf i).toNat)
                      case atStart => exact ⟨0, 0, 0, _, _, by omega, by omega, by omega, rfl, hF1, hG0, hI0, RT.start N R⟩
                      case round =>
                        clear hF1 hG0 hI0
                        obtain ⟨i, kg, ki, G, I, hi, hkg, hki', rfl, hF, hG, hI, hRT⟩ := hrel
                        by_cases hlt5 : i < n3
                        · obtain ⟨g, o, z, rfl, hg, hz, -, hcz'⟩ := h3.cell hlt5
                          obtain ⟨x, rfl, hx⟩ := isN_node (hRN.out _ (List.mem_of_getElem? hz))
                          have hcz := (hF.out.1.1.cell (p := ⟨g, o + i, none⟩) hg).trans hcz'
                          obtain ⟨dx, hTx'⟩ := hUFx.out.at hx
                          have hTx := Lib.hid hTx'
                          have hRx := hUFx.out.lt hx
                          have hlI := hI.out.look (x := x) (by omega)
                          have hcj := hF.out.cell
                          clear hz hcz' hTx'
                          cases hIx : I x with
                          | true =>
                            rw [hIx] at hlI
                            go_wp2_with fail
                            go_roundw
                            case rel => exact ⟨i + 1, kg, ki, G, I, by omega, by omega, by omega, by go_num, hF, hG, hI, hRT⟩
                            case measure => simp [intOf]; omega
                          | false =>
                            rw [hIx] at hlI
                            go_wp2_with (at_mapUpdate; refine wpList_upB _ rfl _ _ _ rfl (Bg + 1) ki I rfl hI.out (by unfold maxLen; omega) x true rfl rfl (by omega) ?_; intro w1 hI1 hg1; have hF1 := Lib.hid (hF.out.row hg1 (fun b hb => by injection hb with hb; subst hb; omega)); have hcj1 := hF1.out.cell)
                            have hG1 := hG.out.grown hg1 (fun e => by injection e with e; omega)
                            refine (join_top B k f x dx (R x) _ hF1.out.2.2 hTx (by omega) hv).mono ?_
                            rintro e w2 ⟨rfl, hb2⟩
                            have hF2 := Lib.hid (hF1.out.call hb2)
                            have hG2 := hG1.call hb2
                            have hI2 := hI1.call hb2
                            have hlG := hG2.look (x := R x) (by omega)
                            have hcj2 := hF2.out.cell
                            have hG2 := Lib.hid hG2
                            have hI2 := Lib.hid hI2
                            clear hb2 hI1 hG1 hg1 hlI hcj1 hcz hcj
                            cases hGx : G (R x) with
                            | true =>
                              rw [hGx] at hlG
                              go_wp2_with fail
                              go_ret3
                              exact ⟨none, 0, 0, none, 0, 0, 7, rfl, hF2.out.1.1, fun h => by omega, by omega, by omega⟩
                            | false =>
                              rw [hGx] at hlG
                              go_wp2_with fail
                              refine (join_top B k f x dx (R x) _ hF2.out.2.2 hTx (by omega) hv).mono ?_
                              rintro e w3 ⟨rfl, hb3⟩
                              have hF3 := Lib.hid (hF2.out.call hb3)
                              have hG3 := Lib.hid (hG2.out.call hb3)
                              have hI3 := Lib.hid (hI2.out.call hb3)
                              clear hb3 hlG hcj2
                              go_wp2_with (at_mapUpdate; refine wpList_upB _ rfl _ _ _ rfl Bg kg G rfl hG3.out (by unfold maxLen; omega) (R x) true rfl rfl (by omega) ?_; intro w4 hG4 hg4)
                              go_roundw
                              case rel => exact ⟨i + 1, kg + 1, ki + 1, _, _, by omega, by omega, by omega, by go_num, hF3.out.row hg4 (fun b hb => by injection hb with hb; subst hb; omega), hG4, hI3.out.grown hg4 (fun e => by injection e with e; omega), hRT.out.root hUFx.out hx hGx⟩
                              case measure => simp [intOf]; omega
                        · have : n3 = i := by omega
                          subst this
                          go_wp2_with fail
                          have hbM : Bg + 2 ≤ wr.heap.size := by have := hI.out.lt; omega
                          obtain ⟨i0, hi0, hz0, hz1, hz2⟩ := info_parts infoI
                          go_loopw [26, 149] (fun v26 v149 wr => R6 w B N n1 n2 n3 Bg ki I v26 v149 wr) (fun _ i _ => n2 - (intOf i).toNat)
                          case atStart => exact ⟨0, k, kg, 0, f, R, G, [], by omega, by omega, by omega, by omega, rfl, hF, hG, hI, hRT, hUFx, by have := htr.out; show _ = _; omega, World.ownsRow_nil _ _ _ _⟩
                          case round =>
                            clear hF hG hI hRT hUFx htr hv hkg
                            obtain ⟨i, k, kg, nb, f, R, G, xb, hi, hk, hkg, hnb, rfl, hF, hG, hI, hRT, hUF, htr, hRow⟩ := hrel
                            by_cases hlt6 : i < n2
                            · obtain ⟨g, o, zs, A', n', c', rfl, hg, hzs, hcz', hLz⟩ := h2.cell hlt6
                              obtain ⟨x, y, rfl, hx, hy⟩ := isA_nodes (hLA.out _ (List.mem_of_getElem? hzs))
                              obtain rfl : 2 = n' := hLz.1
                              obtain ⟨ga, oa, x', rfl, hga, hx', -, hcx'⟩ := hLz.cell (j := 0) (by omega)
                              obtain ⟨ga', oa', y', hA', -, hy', -, hcy'⟩ := hLz.cell (j := 1) (by omega)
                              obtain ⟨rfl, rfl⟩ : ga = ga' ∧ oa = oa' := by simpa using hA'
                              obtain rfl : (x : Int) = x' := by simpa using hx'
                              obtain rfl : (y : Int) = y' := by simpa using hy'
                              rw [Nat.add_zero] at hcx'
                              have hcz := (hF.out.1.1.cell (p := ⟨g, o + i, none⟩) hg).trans hcz'
                              have hcx := (hF.out.1.1.cell (p := ⟨ga, oa, none⟩) hga).trans hcx'
                              have hcy := (hF.out.1.1.cell (p := ⟨ga, oa + 1, none⟩) hga).trans hcy'
                              have hcj := hF.out.cell
                              have hS : (fun w' : World => w'.cell? ⟨B + 1, 0, none⟩ = some (.map (some B)) ∧ w'.cell? ⟨ga, oa, none⟩ = some (.int .i64 (x : Int)) ∧ w'.cell? ⟨ga, oa + 1, none⟩ = some (.int .i64 (y : Int))) wr.drew := ⟨hcj, hcx, hcy⟩
                              obtain ⟨dx, hTx'⟩ := hUF.out.at hx
                              obtain ⟨dy, hTy'⟩ := hUF.out.at hy
                              have hTx := Lib.hid hTx'
                              have hTy := Lib.hid hTy'
                              have hv : Hid (∀ x u, f x = some u → u < 1000) := fun x u h => by have := hUF.out.2 x u h; omega
                              have hRx := hUF.out.lt hx
                              have hRy := hUF.out.lt hy
                              have hcx1 := Lib.hid hcx'
                              have hcy1 := Lib.hid hcy'
                              have hm1 : Hid (1 = 1) := rfl
                              clear hx' hy' hA' hzs hLz hTx' hTy' hcz' hcx' hcy'
                              go_wp2_with fail
                              go_region_held3 (fun w' : World => w'.cell? ⟨B + 1, 0, none⟩ = some (.map (some B)) ∧ w'.cell? ⟨ga, oa, none⟩ = some (.int .i64 (x : Int)) ∧ w'.cell? ⟨ga, oa + 1, none⟩ = some (.int .i64 (y : Int)))
                                (first | (with_reducible exact hS))
                                (first
                                  | (have hz := hm1; go_at_call 38; clear hz hm1; refine (join_top B k f x dx (R x) _ hF.out.2.2.drew hTx (by omega) hv).mono ?_; rintro e wp ⟨rfl, hbp⟩; have hFa := Lib.hid (hF.out.drew.call hbp); have hGa := Lib.hid (hG.out.drew.call hbp); have hIa := Lib.hid (hI.out.drew.call hbp); have hRow1 := Lib.hid (hRow.out.drew.call6 hbp); clear hS hbp; have hS : (fun w' : World => w'.cell? ⟨B + 1, 0, none⟩ = some (.map (some B)) ∧ w'.cell? ⟨ga, oa, none⟩ = some (.int .i64 (x : Int)) ∧ w'.cell? ⟨ga, oa + 1, none⟩ = some (.int .i64 (y : Int))) wp := ⟨hFa.out.cell, (hFa.out.1.1.cell (p := ⟨ga, oa, none⟩) hga).trans hcx1.out, (hFa.out.1.1.cell (p := ⟨ga, oa + 1, none⟩) hga).trans hcy1.out⟩)
                                  | (go_at_call 38; refine (join_top B k f y dy (R y) _ hFa.out.2.2 hTy (by omega) hv).mono ?_; rintro e wq ⟨rfl, hbq⟩; have hFb := Lib.hid (hFa.out.call hbq); have hGb := Lib.hid (hGa.out.call hbq); have hIb := Lib.hid (hIa.out.call hbq); have hRow2 := Lib.hid (hRow1.out.call6 hbq); clear hS hbq; have hS : (fun w' : World => w'.cell? ⟨B + 1, 0, none⟩ = some (.map (some B)) ∧ w'.cell? ⟨ga, oa, none⟩ = some (.int .i64 (x : Int)) ∧ w'.cell? ⟨ga, oa + 1, none⟩ = some (.int .i64 (y : Int))) wq := ⟨hFb.out.cell, (hFb.out.1.1.cell (p := ⟨ga, oa, none⟩) hga).trans hcx1.out, (hFb.out.1.1.cell (p := ⟨ga, oa + 1, none⟩) hga).trans hcy1.out⟩))
                              have hlx := hGb.out.look (x := R x) (by omega)
                              have hly := hGb.out.look (x := R y) (by omega)
                              have hcjb := hFb.out.cell
                              have hbM : Bg + 2 ≤ wq.heap.size := by have := hIb.out.lt; omega
                              clear hS hcx hcy hcz hcj hF hG hI hRow hFa hGa hIa hRow1 hTx hTy
                              by_cases hxy : R x = R y
                              · have hxyt : ((R x : Int) == (R y : Int)) = true := by simp [hxy]
                                have hxy := Lib.hid hxy
                                go_wp2_with (at_builtin; refine wpList_append_own _ rfl _ _ 38 rfl (Bg + 2) 3 i0 (.int .i64 0) 1 8 Try.underlying38 hi0 hz0 hz1 hz2 rfl (by decide) _ nb xb rfl (hRow2.out.alloc _) ⟨wq.heap.size, 0, none⟩ 1 1 [.int .i64 (i : Int)] rfl rfl (cell_one_new _ _ _) (by intro u hu; simp at hu; subst hu; rfl) (by unfold maxLen; omega) (by omega) (by simp; omega) ?_; intro v' w5 hRow5 hgr5 hnil5)
                                have hF5 := (hFb.out.call ((Below.refl _ _).alloc (Nat.le_refl _) _)).row hgr5 (fun b hb => by have := own_ge hRow2.out b hb; omega)
                                have hG5 := (hGb.out.call ((Below.refl _ _).alloc (Nat.le_refl _) _)).grown hgr5 (fun e => by have := own_ge hRow2.out _ e.symm; omega)
                                have hI5 := (hIb.out.call ((Below.refl _ _).alloc (Nat.le_refl _) _)).grown hgr5 (fun e => by have := own_ge hRow2.out _ e.symm; omega)
                                go_roundw
                                case rel => exact ⟨i + 1, k, kg, nb + 1, f, R, G, _, by omega, by omega, by omega, by omega, by go_num, hF5, hG5, hI5, hRT, hUF, by have := htr.out; show _ = _; omega, hRow5⟩
                                case measure => simp [intOf]; omega
                              · have hxyf : ((R x : Int) == (R y : Int)) = false := by simp; omega
                                have hTX : Hid (Top f (R x) 0 (R x)) := .root (hUF.out.none_at hx)
                                have hTY : Hid (Top f (R y) 0 (R y)) := .root (hUF.out.none_at hy)
                                have hUF2 : Hid (UF N (upd f (R y) (some (R x))) (jn R (R x) (R y))) := by
                                  have h := hUF.out.join hRx hRy (by rw [hUF.out.idem hx, hUF.out.idem hy]; exact hxy)
                                  rw [hUF.out.idem hx, hUF.out.idem hy] at h
                                  exact h
                                have htr2 : Hid (trees N (jn R (R x) (R y)) + 1 = trees N R) := hUF.out.fewer hRx hRy (by rw [hUF.out.idem hx, hUF.out.idem hy]; exact hxy)
                                have hTX2 : Hid (Top (upd f (R y) (some (R x))) (R x) 0 (R x)) := .root (by have h := hUF.out.none_at hx; simp [upd, hxy, h])
                                have hv2 : Hid (∀ z u, upd f (R y) (some (R x)) z = some u → u < 1000) := fun z u h => by have := hUF2.out.2 z u h; omega
                                cases hGx : G (R x) with
                                | true =>
                                  rw [hGx] at hlx
                                  cases hGy : G (R y) with
                                  | true =>
                                    rw [hGy] at hly
                                    go_wp2_with (at_builtin; refine wpList_append_own _ rfl _ _ 38 rfl (Bg + 2) 3 i0 (.int .i64 0) 1 8 Try.underlying38 hi0 hz0 hz1 hz2 rfl (by decide) _ nb xb rfl (hRow2.out.alloc _) ⟨wq.heap.size, 0, none⟩ 1 1 [.int .i64 (i : Int)] rfl rfl (cell_one_new _ _ _) (by intro u hu; simp at hu; subst hu; rfl) (by unfold maxLen; omega) (by omega) (by simp; omega) ?_; intro v' w5 hRow5 hgr5 hnil5)
                                    have hF5 := (hFb.out.call ((Below.refl _ _).alloc (Nat.le_refl _) _)).row hgr5 (fun b hb => by have := own_ge hRow2.out b hb; omega)
                                    have hG5 := (hGb.out.call ((Below.refl _ _).alloc (Nat.le_refl _) _)).grown hgr5 (fun e => by have := own_ge hRow2.out _ e.symm; omega)
                                    have hI5 := (hIb.out.call ((Below.refl _ _).alloc (Nat.le_refl _) _)).grown hgr5 (fun e => by have := own_ge hRow2.out _ e.symm; omega)
                                    go_roundw
                                    case rel => exact ⟨i + 1, k, kg, nb + 1, f, R, G, _, by omega, by omega, by omega, by omega, by go_num, hF5, hG5, hI5, hRT, hUF, by have := htr.out; show _ = _; omega, hRow5⟩
                                    case measure => simp [intOf]; omega
                                  | false =>
                                    rw [hGy] at hly
                                    go_wp2_with fail
                                    refine (join_join B k f (R x) 0 (R x) (R y) 0 (R y) _ hFb.out.2.2 hTX hTY (by omega) (by omega) (by omega) (by omega) hv (by omega)).mono ?_
                                    rintro e wJ ⟨cJ, rfl, hPJ, hgJ⟩
                                    rcases hPJ.out with ⟨rfl, -, hU⟩ | ⟨-, he, -⟩
                                    case inr => exact absurd he hxy
                                    have hFJ := Lib.hid (hFb.out.join hgJ hBw hBj hU)
                                    have hGJ := hGb.out.grown hgJ (fun e => by injection e with e; omega)
                                    have hIJ := hIb.out.grown hgJ (fun e => by injection e with e; omega)
                                    have hRJ := hRow2.out.kept hgJ (own_ne hRow2.out (by omega))
                                    have hcJ := hFJ.out.cell
                                    clear hPJ hgJ hU hlx hly
                                    go_wp2_with fail
                                    refine (join_top B (k + 1) (upd f (R y) (some (R x))) (R x) 0 (R x) _ hFJ.out.2.2 hTX2 (by omega) hv2).mono ?_
                                    rintro e wT ⟨rfl, hbT⟩
                                    have hFT := Lib.hid (hFJ.out.call hbT)
                                    have hGT := Lib.hid (hGJ.call hbT)
                                    have hIT := Lib.hid (hIJ.call hbT)
                                    have hRT2 := Lib.hid (hRJ.call6 hbT)
                                    clear hGJ hIJ hRJ hbT
                                    go_wp2_with (at_mapUpdate; refine wpList_upB _ rfl _ _ _ rfl Bg kg G rfl hGT.out (by unfold maxLen; omega) (R x) true rfl rfl (by omega) ?_; intro w6 hG6 hg6)
                                    go_roundw
                                    case rel => exact ⟨i + 1, k + 1, kg + 1, nb, _, _, _, xb, by omega, by omega, by omega, by omega, by go_num, hFT.out.row hg6 (fun b hb => by injection hb with hb; subst hb; omega), hG6, hIT.out.grown hg6 (fun e => by injection e with e; omega), by have h := hRT.out.join hUF.out hRx hRy (hUF.out.idem hx) (hUF.out.idem hy) hxy (by rw [hGx, hGy]; simp); rw [hGx, hGy] at h; exact h, hUF2, by have h := htr.out; have h' := htr2.out; show _ = _; omega, hRT2.out.kept hg6 (own_ne hRow2.out (by omega))⟩
                                    case measure => simp [intOf]; omega
                                | false =>
                                  rw [hGx] at hlx
                                  cases hGy : G (R y) with
                                  | true =>
                                    rw [hGy] at hly
                                    go_wp2_with fail
                                    refine (join_join B k f (R x) 0 (R x) (R y) 0 (R y) _ hFb.out.2.2 hTX hTY (by omega) (by omega) (by omega) (by omega) hv (by omega)).mono ?_
                                    rintro e wJ ⟨cJ, rfl, hPJ, hgJ⟩
                                    rcases hPJ.out with ⟨rfl, -, hU⟩ | ⟨-, he, -⟩
                                    case inr => exact absurd he hxy
                                    have hFJ := Lib.hid (hFb.out.join hgJ hBw hBj hU)
                                    have hGJ := hGb.out.grown hgJ (fun e => by injection e with e; omega)
                                    have hIJ := hIb.out.grown hgJ (fun e => by injection e with e; omega)
                                    have hRJ := hRow2.out.kept hgJ (own_ne hRow2.out (by omega))
                                    have hcJ := hFJ.out.cell
                                    clear hPJ hgJ hU hlx hly
                                    go_wp2_with fail
                                    refine (join_top B (k + 1) (upd f (R y) (some (R x))) (R x) 0 (R x) _ hFJ.out.2.2 hTX2 (by omega) hv2).mono ?_
                                    rintro e wT ⟨rfl, hbT⟩
                                    have hFT := Lib.hid (hFJ.out.call hbT)
                                    have hGT := Lib.hid (hGJ.call hbT)
                                    have hIT := Lib.hid (hIJ.call hbT)
                                    have hRT2 := Lib.hid (hRJ.call6 hbT)
                                    clear hGJ hIJ hRJ hbT
                                    go_wp2_with (at_mapUpdate; refine wpList_upB _ rfl _ _ _ rfl Bg kg G rfl hGT.out (by unfold maxLen; omega) (R x) true rfl rfl (by omega) ?_; intro w6 hG6 hg6)
                                    go_roundw
                                    case rel => exact ⟨i + 1, k + 1, kg + 1, nb, _, _, _, xb, by omega, by omega, by omega, by omega, by go_num, hFT.out.row hg6 (fun b hb => by injection hb with hb; subst hb; omega), hG6, hIT.out.grown hg6 (fun e => by injection e with e; omega), by have h := hRT.out.join hUF.out hRx hRy (hUF.out.idem hx) (hUF.out.idem hy) hxy (by rw [hGx, hGy]; simp); rw [hGx, hGy] at h; exact h, hUF2, by have h := htr.out; have h' := htr2.out; show _ = _; omega, hRT2.out.kept hg6 (own_ne hRow2.out (by omega))⟩
                                    case measure => simp [intOf]; omega
                                  | false =>
                                    rw [hGy] at hly
                                    go_wp2_with fail
                                    refine (join_join B k f (R x) 0 (R x) (R y) 0 (R y) _ hFb.out.2.2 hTX hTY (by omega) (by omega) (by omega) (by omega) hv (by omega)).mono ?_
                                    rintro e wJ ⟨cJ, rfl, hPJ, hgJ⟩
                                    rcases hPJ.out with ⟨rfl, -, hU⟩ | ⟨-, he, -⟩
                                    case inr => exact absurd he hxy
                                    have hFJ := Lib.hid (hFb.out.join hgJ hBw hBj hU)
                                    have hGJ := hGb.out.grown hgJ (fun e => by injection e with e; omega)
                                    have hIJ := hIb.out.grown hgJ (fun e => by injection e with e; omega)
                                    have hRJ := hRow2.out.kept hgJ (own_ne hRow2.out (by omega))
                                    have hcJ := hFJ.out.cell
                                    clear hPJ hgJ hU hlx hly
                                    go_wp2_with fail
                                    refine (join_top B (k + 1) (upd f (R y) (some (R x))) (R x) 0 (R x) _ hFJ.out.2.2 hTX2 (by omega) hv2).mono ?_
                                    rintro e wT ⟨rfl, hbT⟩
                                    have hFT := Lib.hid (hFJ.out.call hbT)
                                    have hGT := Lib.hid (hGJ.call hbT)
                                    have hIT := Lib.hid (hIJ.call hbT)
                                    have hRT2 := Lib.hid (hRJ.call6 hbT)
                                    clear hGJ hIJ hRJ hbT
                                    go_wp2_with (at_mapUpdate; refine wpList_upB _ rfl _ _ _ rfl Bg kg G rfl hGT.out (by unfold maxLen; omega) (R x) false rfl rfl (by omega) ?_; intro w6 hG6 hg6)
                                    go_roundw
                                    case rel => exact ⟨i + 1, k + 1, kg + 1, nb, _, _, _, xb, by omega, by omega, by omega, by omega, by go_num, hFT.out.row hg6 (fun b hb => by injection hb with hb; subst hb; omega), hG6, hIT.out.grown hg6 (fun e => by injection e with e; omega), by have h := hRT.out.join hUF.out hRx hRy (hUF.out.idem hx) (hUF.out.idem hy) hxy (by rw [hGx, hGy]; simp); rw [hGx, hGy] at h; exact h, hUF2, by have h := htr.out; have h' := htr2.out; show _ = _; omega, hRT2.out.kept hg6 (own_ne hRow2.out (by omega))⟩
                                    case measure => simp [intOf]; omega
                            · have : n2 = i := by omega
                              subst this
                              have hcn := (hF.out.call ((Below.refl _ _).alloc (Nat.le_refl _) (.map #[] 0))).num
                              obtain ⟨Ab, cb, rfl⟩ := own_slice hRow.out
                              go_wp2_with fail
                              have hT0 := BM.new wr
                              obtain ⟨Bt, hBt⟩ : ∃ Bt, Bt = wr.heap.size := ⟨_, rfl⟩
                              have hltI := hI.out.lt
                              rw [← hBt] at hT0 hltI ⊢
                              have hF7 := Lib.hid (hF.out.call ((Below.refl _ _).alloc (Nat.le_refl _) (.map #[] 0)))
                              have hG7 := Lib.hid (hG.out.call ((Below.refl _ _).alloc (Nat.le_refl _) (.map #[] 0)))
                              have hI7 := Lib.hid (hI.out.call ((Below.refl _ _).alloc (Nat.le_refl _) (.map #[] 0)))
                              obtain ⟨w7, hw7⟩ : ∃ w7, w7 = wr.alloc (.map #[] 0) := ⟨_, rfl⟩
                              rw [← hw7] at hT0 hF7 hG7 hI7 ⊢
                              clear hw7 hBt hcn hF hG hI hRow
                              have hv : Hid (∀ x u, f x = some u → u < 1000) := fun x u h => by have := hUF.out.2 x u h; omega
                              go_loopw [27, 201] (fun v27 v201 wr => R7 w B N k kg ki Bg Bt f R G I v27 v201 wr) (fun _ i _ => N - (intOf i).toNat)
                              case atStart => exact ⟨0, 0, 0, _, [], by omega, by omega, by omega, rfl, hF7, hG7, hI7, hT0, TL.start N R G, rfl, World.ownsRow_nil _ _ _ _⟩
                              case round =>
                                clear hF7 hG7 hI7 hT0
                                obtain ⟨i, kt, no, T, xo, hi, hkt, hno', rfl, hF, hG, hI, hT, hTL, hno, hRow⟩ := hrel
                                by_cases hlt7 : i < N
                                · obtain ⟨dx, hTx'⟩ := hUF.out.at hlt7
                                  have hTx := Lib.hid hTx'
                                  have hRx := hUF.out.lt hlt7
                                  have hcj := hF.out.cell
                                  clear hTx'
                                  go_wp2_with fail
                                  refine (join_top B k f i dx (R i) _ hF.out.2.2 hTx (by omega) hv).mono ?_
                                  rintro e wq ⟨rfl, hbq⟩
                                  have hFb := Lib.hid (hF.out.call hbq)
                                  have hGb := Lib.hid (hG.out.call hbq)
                                  have hIb := Lib.hid (hI.out.call hbq)
                                  have hTb := Lib.hid (hT.out.call hbq)
                                  have hRow2 := Lib.hid (hRow.out.call6 hbq)
                                  have hlG := hGb.out.look (x := R i) (by omega)
                                  have hlI := hIb.out.look (x := i) (by omega)
                                  have hlT := hTb.out.look (x := R i) (by omega)
                                  have hbM : Bt + 1 ≤ wq.heap.size := by have := hTb.out.lt; omega
                                  clear hbq hcj hF hG hI hT hRow hTx
                                  cases hGx : G (R i) with
                                  | true =>
                                    rw [hGx] at hlG
                                    have htl' : told R G I i = I i := by unfold told; rw [hGx]; rfl
                                    cases hIx : I i with
                                    | true =>
                                      rw [hIx] at hlI htl'
                                      have htl := Lib.hid htl'
                                      clear htl'
                                      go_wp2_with (first | (at_builtin; refine wpList_append_own _ rfl _ _ 38 rfl (Bt + 1) 3 i0 (.int .i64 0) 1 8 Try.underlying38 hi0 hz0 hz1 hz2 rfl (by decide) _ no xo rfl (hRow2.out.alloc _) ⟨wq.heap.size, 0, none⟩ 1 1 [.int .i64 (i : Int)] rfl rfl (cell_one_new _ _ _) (by intro u hu; simp at hu; subst hu; rfl) (by unfold maxLen; omega) (by omega) (by simp; omega) ?_; intro v' w5 hRow5 hgr5 hnil5))
                                      have hF5 := (hFb.out.call ((Below.refl _ _).alloc (Nat.le_refl _) _)).row hgr5 (fun b hb => by have := own_ge hRow2.out b hb; omega)
                                      have hG5 := (hGb.out.call ((Below.refl _ _).alloc (Nat.le_refl _) _)).grown hgr5 (fun e => by have := own_ge hRow2.out _ e.symm; omega)
                                      have hI5 := (hIb.out.call ((Below.refl _ _).alloc (Nat.le_refl _) _)).grown hgr5 (fun e => by have := own_ge hRow2.out _ e.symm; omega)
                                      have hT5 := (hTb.out.call ((Below.refl _ _).alloc (Nat.le_refl _) _)).grown hgr5 (fun e => by have := own_ge hRow2.out _ e.symm; omega)
                                      go_roundw
                                      case rel => exact ⟨i + 1, kt, no + 1, T, _, by omega, by omega, by omega, by go_num, hF5, hG5, hI5, hT5, hTL.out.skip hGx, by show no + 1 = cnt (told R G I) i + (if told R G I i then 1 else 0); rw [htl.out, ← hno.out]; rfl, hRow5⟩
                                      case measure => simp [intOf]; omega
                                    | false =>
                                      rw [hIx] at hlI htl'
                                      have htl := Lib.hid htl'
                                      clear htl'
                                      go_wp2_with fail
                                      go_roundw
                                      case rel => exact ⟨i + 1, kt, no, T, xo, by omega, by omega, by omega, by go_num, hFb, hGb, hIb, hTb, hTL.out.skip hGx, by show no = cnt (told R G I) i + (if told R G I i then 1 else 0); rw [htl.out, ← hno.out]; rfl, hRow2⟩
                                      case measure => simp [intOf]; omega
                                  | false =>
                                    rw [hGx] at hlG
                                    have htl' := hTL.out.told_iff (I := I) hUF.out hlt7 hGx
                                    cases hTx : T (R i) with
                                    | true =>
                                      rw [hTx] at hlT htl'
                                      have htl := Lib.hid htl'
                                      clear htl'
                                      go_wp2_with fail
                                      go_roundw
                                      case rel => exact ⟨i + 1, kt, no, T, xo, by omega, by omega, by omega, by go_num, hFb, hGb, hIb, hTb, hTL.out.again hUF.out hlt7 hTx, by show no = cnt (told R G I) i + (if told R G I i then 1 else 0); rw [htl.out, ← hno.out]; rfl, hRow2⟩
                                      case measure => simp [intOf]; omega
                                    | false =>
                                      rw [hTx] at hlT htl'
                                      have htl := Lib.hid htl'
                                      clear htl'
                                      go_wp2_with (first | (at_mapUpdate; refine wpList_upB _ rfl _ _ _ rfl Bt kt T rfl hTb.out (by unfold maxLen; omega) (R i) true rfl rfl (by omega) ?_; intro w4 hT4 hg4; have hRow4 := hRow2.out.kept hg4 (own_ne hRow2.out (by omega)); have hs4 := hg4.size) | (at_builtin; refine wpList_append_own _ rfl _ _ 38 rfl (Bt + 1) 3 i0 (.int .i64 0) 1 8 Try.underlying38 hi0 hz0 hz1 hz2 rfl (by decide) _ no xo rfl (hRow4.alloc _) ⟨w4.heap.size, 0, none⟩ 1 1 [.int .i64 (i : Int)] rfl rfl (cell_one_new _ _ _) (by intro u hu; simp at hu; subst hu; rfl) (by unfold maxLen; omega) (by omega) (by simp; omega) ?_; intro v' w5 hRow5 hgr5 hnil5))
                                      have hF5 := ((hFb.out.row hg4 (fun b hb => by injection hb with hb; subst hb; omega)).call ((Below.refl _ _).alloc (Nat.le_refl _) _)).row hgr5 (fun b hb => by have := own_ge hRow4 b hb; omega)
                                      have hG5 := ((hGb.out.grown hg4 (fun e => by injection e with e; omega)).call ((Below.refl _ _).alloc (Nat.le_refl _) _)).grown hgr5 (fun e => by have := own_ge hRow4 _ e.symm; omega)
                                      have hI5 := ((hIb.out.grown hg4 (fun e => by injection e with e; omega)).call ((Below.refl _ _).alloc (Nat.le_refl _) _)).grown hgr5 (fun e => by have := own_ge hRow4 _ e.symm; omega)
                                      have hT5 := (hT4.call ((Below.refl _ _).alloc (Nat.le_refl _) _)).grown hgr5 (fun e => by have := own_ge hRow4 _ e.symm; omega)
                                      go_roundw
                                      case rel => exact ⟨i + 1, kt + 1, no + 1, _, _, by omega, by omega, by omega, by go_num, hF5, hG5, hI5, hT5, hTL.out.tell hGx, by show no + 1 = cnt (told R G I) i + (if told R G I i then 1 else 0); rw [htl.out, ← hno.out]; rfl, hRow5⟩
                                      case measure => simp [intOf]; omega
                                · have : N = i := by omega
                                  subst this
                                  have hcount : Hid ((n1 : Int) + n2 - (nb : Int) + (no : Int) = N) := by
                                    have h1 := htr.out
                                    have h2 := hno.out
                                    have h3 := told_count hUF.out hRT.out
                                    show _ = _
                                    omega
                                  obtain ⟨Ao, co, rfl⟩ := own_slice hRow.out
                                  clear hTL hno htr
                                  go_wp2_with fail
                                  go_ret3
                                  exact ⟨Ab, nb, cb, Ao, no, co, 0, rfl, hF.out.1.1, fun _ => hcount.out, by omega, by omega⟩

end Go.Proofs.Ytgoojlnfobjplaa
