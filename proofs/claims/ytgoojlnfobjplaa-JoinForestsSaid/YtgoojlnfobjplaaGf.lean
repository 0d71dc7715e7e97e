/- The reference: the forest of a graph. -/
import Derived.Test.YtgoojlnfobjplaaGd
import Derived.Test.YtgoojlnfobjplaaZr2
namespace Go.Proofs.Ytgoojlnfobjplaa
set_option linter.unusedSimpArgs false
set_option linter.unusedVariables false
open Go.RowKit Go.Maps

theorem made_zerosI (N : Nat) : (madeCells (Value.int .i64 0).cells (N * 1)).toList = vi ((List.range N).map fun _ => 0) := by
  rw [Nat.mul_one]
  show (madeCells #[Value.int .i64 0] N).toList = _
  rw [toList_madeCells_one]
  unfold vi
  rw [List.map_map]
  apply List.ext_getElem
  · simp
  · intro k h1 h2
    simp

theorem bad_eq2 {n : Int} {fs ls : List (List Int)} {rs : List Int} {b : Bool} (h : (badAt n fs ls 2 || rs.any (nN n)) = b) : ((decide (n < 1) || decide (64 < n)) || fs.any (fun a => !isA n a) || ls.any (fun a => !isA n a) || rs.any (fun r => !isN n r)) = b := by
  rw [← h]
  unfold badAt
  simp [nA, nN]
  rfl

theorem are_ans {n : Int} {fs ls : List (List Int)} {rs : List Int} (h : areE n fs ls rs ≠ 0) : forestS n fs ls rs = (areE n fs ls rs, [], []) := by
  cases hb : (badAt n fs ls 2 || rs.any (nN n)) with
  | true =>
    rw [ans_bad (bad_eq2 hb)]
    unfold areE
    rw [if_pos hb]
  | false =>
    by_cases hl : 96 < fs.length ∨ 96 < ls.length
    · rw [ans_large (bad_eq2 hb) hl]
      unfold areE
      rw [if_neg (by rw [hb]; simp), if_pos hl]
    · exfalso
      apply h
      unfold areE
      rw [if_neg (by rw [hb]; simp), if_neg hl]

theorem are_ok {n : Int} {fs ls : List (List Int)} {rs : List Int} (h : areE n fs ls rs = 0) : (badAt n fs ls 2 || rs.any (nN n)) = false ∧ ¬ 96 < fs.length ∧ ¬ 96 < ls.length := by
  cases hb : (badAt n fs ls 2 || rs.any (nN n)) with
  | true =>
    unfold areE at h
    rw [if_pos hb] at h
    omega
  | false =>
    unfold areE at h
    rw [if_neg (by rw [hb]; simp)] at h
    by_cases hl : 96 < fs.length ∨ 96 < ls.length
    · rw [if_pos hl] at h
      omega
    · exact ⟨rfl, by omega, by omega⟩

theorem row_dN {w : World} {base : Nat} {e : TypeId} {v : Value} {n : Nat} {xs : List Value} (h : w.ownsRow base e 1 v n xs) (k : Nat) : (w.drewN k).ownsRow base e 1 v n xs := h

theorem br_lt {br : List Nat} {i : Nat} (h : ∀ b ∈ br, b < i) : ∀ b ∈ br ++ [i], b < i + 1 := fun b hb => by
  rcases List.mem_append.1 hb with h1 | h1
  · have := h b h1
    omega
  · simp at h1
    omega

/-- the loose arcs under way -/
def S6 (w : World) (g N : Nat) (rs : List Int) (S0 : Nat → Nat) (ls : List (List Int)) (n2 : Nat) (v20 v94 : Value) (wr : World) : Prop :=
  ∃ (i nb : Nat) (S : Nat → Nat) (br : List Nat), i ≤ n2 ∧ nb ≤ i ∧ v94 = .int .i64 i ∧ Hid (looseF (rs.map Int.toNat) S0 ((ls.map toA).take i) = (S, br, i) ∧ ∀ b ∈ br, b < i) ∧ Hid (TR wr g N S) ∧ Hid (Below w.heap.size w wr) ∧ Hid (wr.ownsRow (g + 1) 3 1 v20 nb (vi br))

/-- the nodes under way -/
def S7 (w w6 : World) (g N Bt : Nat) (rs : List Int) (S : Nat → Nat) (v21 v131 : Value) (wr : World) : Prop :=
  ∃ (i no : Nat), i ≤ N ∧ no ≤ i ∧ v131 = .int .i64 i ∧ Hid (TR wr g N S) ∧ Hid (Below w.heap.size w wr) ∧ Hid (Below Bt w6 wr) ∧ Hid (wr.ownsRow Bt 3 1 v21 no (vi ((List.range i).filter (outB (rs.map Int.toNat) S))))

/-- a node's roots under way -/
def S8 (w w6 : World) (g N Bt : Nat) (rs : List Int) (S : Nat → Nat) (i no : Nat) (v21 : Value) (b0 : Bool) (n3 : Nat) (v25 v149 : Value) (wr : World) : Prop :=
  ∃ (j : Nat) (b : Bool), j ≤ n3 ∧ v149 = .int .i64 j ∧ v25 = .bool b ∧ Hid (b = (b0 || ((rs.map Int.toNat).take j).contains i)) ∧ Hid (TR wr g N S) ∧ Hid (Below w.heap.size w wr) ∧ Hid (Below Bt w6 wr) ∧ Hid (wr.ownsRow Bt 3 1 v21 no (vi ((List.range i).filter (outB (rs.map Int.toNat) S))))

def S9 (w w6 : World) (g N Bt : Nat) (rs : List Int) (S : Nat → Nat) (i no : Nat) (v21 : Value) (b0 : Bool) (v25 : Value) (wr : World) : Prop :=
  v25 = .bool b0 ∧ Hid (TR wr g N S) ∧ Hid (Below w.heap.size w wr) ∧ Hid (Below Bt w6 wr) ∧ Hid (wr.ownsRow Bt 3 1 v21 no (vi ((List.range i).filter (outB (rs.map Int.toNat) S))))

set_option maxRecDepth 100000 in
set_option maxHeartbeats 40000000 in
theorem ref11_Forest (n : Int) (A1 A2 A3 : Option Addr) (n1 c1 n2 c2 n3 c3 : Nat) (fs ls : List (List Int)) (rs : List Int) (w : World) (h1 : L2 w A1 n1 c1 fs) (h2 : L2 w A2 n2 c2 ls) (h3 : L1 w A3 n3 c3 rs) (hn : In64 n) :
    Calls Try.prog 13 #[.int .i64 n, .slice A1 n1 c1, .slice A2 n2 c2, .slice A3 n3 c3] w (PForestS w (forestS n fs ls rs)) := by
  have hb1 : n1 ≤ 17592186044416 := h1.2.1
  have hb2 : n2 ≤ 17592186044416 := h2.2.1
  have hb3 : n3 ≤ 17592186044416 := h3.2.1
  have hl1 := Lib.hid h1.1
  have hl2 := Lib.hid h2.1
  have hl3 := Lib.hid h3.1
  obtain ⟨i0, hi0, hz0, hz1, hz2⟩ := info_parts infoI
  go_enter Try.func13, Try.ntmps13
  go_wp2_with fail
  refine (ref11_areArcs n A1 A2 A3 n1 c1 n2 c2 n3 c3 fs ls rs _ h1 h2 h3 hn).mono ?_
  rintro e w1 ⟨rfl, hb⟩
  obtain ⟨er, her⟩ : ∃ er, er = areE n fs ls rs := ⟨_, rfl⟩
  rw [← her]
  have hbw := Lib.hid hb
  clear hb
  by_cases he : er = 0
  · subst he
    obtain ⟨hgood, hlf1', hlf2'⟩ := are_ok her.symm
    have hgf := Lib.hid (bad_eq2 hgood)
    obtain ⟨N, rfl, hN1, hN2, hFA, hLA, hRN⟩ := good_of hgood.symm
    have hFA := Lib.hid hFA
    have hLA := Lib.hid hLA
    have hnn := Lib.hid (fun r (hr : r ∈ rs) => isN_node (hRN r hr))
    have hlf1 := Lib.hid hlf1'
    have hlf2 := Lib.hid hlf2'
    have hl96 : n2 ≤ 96 := by have h := hlf2.out; rw [hl2.out] at h; omega
    clear her hgood hlf1' hlf2' hRN
    have hN3 : (1 : Int) ≤ (N : Int) := by omega
    go_wp2_with (at_make; refine wpList_make_full _ rfl _ _ 71 rfl w1.heap.size 3 i0 (.int .i64 0) 1 Try.underlying71 hi0 hz0 hz1 .i64 .i64 _ _ N rfl rfl ?c1 ?c1' ?c2 ?c3 ?c4 ?_; rotate_left 5; intro w2 hown hg1)
    case c1 => rfl
    case c1' => rfl
    case c2 => rw [hz2]; omega
    case c3 => simp [maxLen]; omega
    case c4 => exact Nat.le_refl _
    rw [made_zerosI] at hown
    have hT0 : Hid (TR w2 w1.heap.size N (fun z => if z < 0 then z else 0)) := ⟨by simpa using hown, fun i hi => by simp; omega⟩
    have hb2' : Hid (Below w.heap.size w w2) := hbw.out.grown hg1 hbw.out.size (by intro k hk; cases hk)
    obtain ⟨g, hg⟩ : ∃ g, g = w1.heap.size := ⟨_, rfl⟩
    have hgw : w.heap.size ≤ g := by have := hbw.out.size; omega
    rw [← hg] at hT0 ⊢
    clear hg1 hown hbw hg
    go_loopw [40] (fun v40 wr => ∃ i : Nat, i ≤ N ∧ v40 = .int .i64 i ∧ Hid (TR wr g N (fun z => if z < i then z else 0)) ∧ Hid (Below w.heap.size w wr)) (fun i _ => N - (intOf i).toNat)
    case atStart => exact ⟨0, by omega, rfl, hT0, hb2'⟩
    case round =>
      clear hT0 hb2'
      obtain ⟨i, hi, rfl, hT, hb⟩ := hrel
      by_cases hlt : i < N
      · have hci := hT.out.cell hlt
        rw [if_neg (Nat.lt_irrefl i)] at hci
        have hfi := hT.out.frozen i
        have hset : Hid (TR (wr.setCell ⟨g, i, none⟩ (.int .i64 (i : Int))) g N (fun z => if z < i + 1 then z else 0)) := by
          refine (hT.out.set i i hlt rfl).congr (fun j hj => ?_)
          unfold upd
          by_cases e : j = i
          · subst e; rw [if_pos (by omega), if_pos rfl]
          · rw [if_neg e]
            show _ = if j < i then j else 0
            by_cases e2 : j < i
            · rw [if_pos (by omega), if_pos e2]
            · rw [if_neg (by omega), if_neg e2]
        have hb' : Hid (Below w.heap.size w (wr.setCell ⟨g, i, none⟩ (.int .i64 (i : Int)))) := hb.out.setCell (p := ⟨g, i, none⟩) hgw _
        go_wp2_with fail
        go_roundw
        case rel => exact ⟨i + 1, by omega, by go_num, hset, hb'⟩
        case measure => simp [intOf]; omega
      · have : N = i := by omega
        subst this
        have hT1 : Hid (TR wr g N (fun z => z)) := hT.out.congr (fun j hj => by rw [if_pos hj])
        have hb0 := Lib.hid hb.out
        clear hT hb
        go_wp2_with fail
        -- the firm arcs
        go_loopw [50] (fun v50 wr => ∃ (i : Nat) (S : Nat → Nat), i ≤ n1 ∧ v50 = .int .i64 i ∧ Hid (TR wr g N S) ∧ Hid (Below w.heap.size w wr) ∧ Hid (firmF ((fs.map toA).take i) = some S)) (fun i _ => n1 - (intOf i).toNat)
        case atStart => exact ⟨0, fun z => z, by omega, rfl, hT1, hb0, rfl⟩
        case round =>
          clear hT1 hb0
          obtain ⟨i, S, hi, rfl, hT, hb, hF⟩ := hrel
          by_cases hlt : i < n1
          · obtain ⟨g', o, zs, A', n', c', rfl, hg', hzs, hcz', hLz⟩ := h1.cell hlt
            obtain ⟨x, y, rfl, hx, hy⟩ := isA_nodes (hFA.out _ (List.mem_of_getElem? hzs))
            obtain rfl : 2 = n' := hLz.1
            obtain ⟨ga, oa, x', rfl, hga, hx', -, hcx'⟩ := hLz.cell (j := 0) (by omega)
            obtain ⟨ga', oa', y', hA', -, hy', -, hcy'⟩ := hLz.cell (j := 1) (by omega)
            obtain ⟨rfl, rfl⟩ : ga = ga' ∧ oa = oa' := by simpa using hA'
            obtain rfl : (x : Int) = x' := by simpa using hx'
            obtain rfl : (y : Int) = y' := by simpa using hy'
            rw [Nat.add_zero] at hcx'
            have hcz := (hb.out.cell (p := ⟨g', o + i, none⟩) hg').trans hcz'
            have hcx := (hb.out.cell (p := ⟨ga, oa, none⟩) hga).trans hcx'
            have hcy := (hb.out.cell (p := ⟨ga, oa + 1, none⟩) hga).trans hcy'
            have hS : (fun w' : World => w'.cell? ⟨ga, oa, none⟩ = some (.int .i64 (x : Int)) ∧ w'.cell? ⟨ga, oa + 1, none⟩ = some (.int .i64 (y : Int))) wr.drew := ⟨hcx, hcy⟩
            have hcx1 := Lib.hid hcx'
            have hcy1 := Lib.hid hcy'
            have hzs1 := Lib.hid hzs
            clear hx' hy' hA' hzs hLz hcz' hcx' hcy'
            go_wp2_with fail
            go_region_held3 (fun w' : World => w'.cell? ⟨ga, oa, none⟩ = some (.int .i64 (x : Int)) ∧ w'.cell? ⟨ga, oa + 1, none⟩ = some (.int .i64 (y : Int)))
              (first | (with_reducible exact hS))
              (first
                | (go_at_call 40; refine (ref11_join g N S x y _ hN2 hT.out.drew hx hy).mono ?_; rintro e wJ ⟨cJ, rfl, hPJ, hgJ⟩; have hbJ := Lib.hid (hb.out.drew.grown hgJ hb.out.size (fun b hb => by injection hb with hb; omega)); clear hS; have hS : (fun w' : World => w'.cell? ⟨ga, oa, none⟩ = some (.int .i64 (x : Int)) ∧ w'.cell? ⟨ga, oa + 1, none⟩ = some (.int .i64 (y : Int))) wJ := ⟨(hbJ.out.cell (p := ⟨ga, oa, none⟩) hga).trans hcx1.out, (hbJ.out.cell (p := ⟨ga, oa + 1, none⟩) hga).trans hcy1.out⟩))
            rcases hPJ.out with ⟨rfl, hne, hTJ⟩ | ⟨rfl, heq, -⟩
            · have hF2 : Hid (firmF ((fs.map toA).take (i + 1)) = some (lab S x y)) := by
                show _ = _
                rw [take_at (arc_at hzs1.out), firmF_snoc, hF.out]
                simp [hne]
              have hTJ := Lib.hid hTJ
              clear hPJ hS hne
              go_wp2_with fail
              go_roundw
              case rel => exact ⟨i + 1, lab S x y, by omega, by go_num, hTJ, hbJ, hF2⟩
              case measure => simp [intOf]; omega
            · have hans : Hid (forestS N fs ls rs = (7, [], [])) := by
                refine ans_ring hgf.out hlf1.out hlf2.out ?_
                rw [← List.take_append_drop (i + 1) (fs.map toA)]
                apply firmF_none
                rw [take_at (arc_at hzs1.out), firmF_snoc, hF.out]
                simp [heq]
              clear heq
              go_wp2_with fail
              go_ret3
              exact PForestS.err hans.out hbJ.out
          · have : n1 = i := by omega
            subst this
            have hFS : Hid (firmF (fs.map toA) = some S) := by
              have h := hF.out
              rwa [List.take_of_length_le (by rw [List.length_map, hl1.out]; exact Nat.le_refl _)] at h
            have hT2 := Lib.hid hT.out
            have hb2 := Lib.hid hb.out
            clear hT hb hF
            go_wp2_with fail
            -- two roots in one part
            go_loopw [66] (fun v66 wr => ∃ i : Nat, i ≤ n3 ∧ v66 = .int .i64 i ∧ Hid (TR wr g N S) ∧ Hid (Below w.heap.size w wr) ∧ Hid (((rs.map Int.toNat).take i).any (fun a => (rs.map Int.toNat).any fun b => a != b && S a == S b) = false)) (fun i _ => n3 - (intOf i).toNat)
            case atStart => exact ⟨0, by omega, rfl, hT2, hb2, by show _ = _; simp⟩
            case round =>
              clear hT2 hb2
              obtain ⟨i, hi, rfl, hT, hb, hno⟩ := hrel
              by_cases hlt : i < n3
              · obtain ⟨g', o, z, rfl, hg', hz, -, hcz'⟩ := h3.cell hlt
                obtain ⟨x, rfl, hx⟩ := hnn.out _ (List.mem_of_getElem? hz)
                have hcz := (hb.out.cell (p := ⟨g', o + i, none⟩) hg').trans hcz'
                have hz1 := Lib.hid hz
                have hT3 := Lib.hid hT.out
                have hb3 := Lib.hid hb.out
                clear hz hcz' hT hb
                go_wp2_with fail
                go_loopw [72] (fun v72 wr => ∃ j : Nat, j ≤ n3 ∧ v72 = .int .i64 j ∧ Hid (TR wr g N S) ∧ Hid (Below w.heap.size w wr) ∧ Hid (((rs.map Int.toNat).take j).any (fun b => x != b && S x == S b) = false)) (fun j _ => n3 - (intOf j).toNat)
                case atStart => exact ⟨0, by omega, rfl, hT3, hb3, by show _ = _; simp⟩
                case round =>
                  clear hT3 hb3 hcz
                  obtain ⟨j, hj, rfl, hT, hb, hnj⟩ := hrel
                  by_cases hltj : j < n3
                  · obtain ⟨g2, o2, z2, hA2, hg2, hzz, -, hcz2'⟩ := h3.cell hltj
                    obtain ⟨rfl, rfl⟩ : g' = g2 ∧ o = o2 := by simpa using hA2
                    obtain ⟨y, rfl, hy⟩ := hnn.out _ (List.mem_of_getElem? hzz)
                    have hcz2 := (hb.out.cell (p := ⟨g', o + j, none⟩) hg').trans hcz2'
                    have hcx := hT.out.cell hx
                    have hcy := hT.out.cell hy
                    have hSx := hT.out.2 x hx
                    have hSy := hT.out.2 y hy
                    have hzz1 := Lib.hid hzz
                    clear hzz hcz2' hA2
                    by_cases hxy : x = y
                    · have hxy' : ((x : Int) != (y : Int)) = false := by simp [hxy]
                      have hst : Hid (((rs.map Int.toNat).take (j + 1)).any (fun b => x != b && S x == S b) = false) := by
                        show _ = _
                        rw [any_take (root_at hzz1.out), hnj.out]
                        simp [hxy]
                      have hxy := Lib.hid hxy
                      go_wp2_with fail
                      go_quiet (fail)
                      go_wp2_with fail
                      go_roundw
                      case rel => exact ⟨j + 1, by omega, by go_num, hT.out.drewN _, bdN hb.out _, hst⟩
                      case measure => simp [intOf]; omega
                    · have hxy' : ((x : Int) != (y : Int)) = true := by simp; omega
                      by_cases hs : S x = S y
                      · have hs' : ((S x : Int) == (S y : Int)) = true := by simp [hs]
                        have hans : Hid (forestS N fs ls rs = (7, [], [])) := by
                          refine ans_two hgf.out hlf1.out hlf2.out hFS.out ?_
                          unfold twoR
                          refine any_of_at (root_at hz1.out) (any_of_at (root_at hzz1.out) ?_)
                          simp [hxy, hs]
                        have hs := Lib.hid hs
                        go_wp2_with fail
                        go_quiet (fail)
                        go_wp2_with fail
                        go_ret3
                        exact PForestS.err hans.out (bdN hb.out _)
                      · have hs' : ((S x : Int) == (S y : Int)) = false := by simp; omega
                        have hst : Hid (((rs.map Int.toNat).take (j + 1)).any (fun b => x != b && S x == S b) = false) := by
                          show _ = _
                          rw [any_take (root_at hzz1.out), hnj.out]
                          simp [hs]
                        go_wp2_with fail
                        go_quiet (fail)
                        go_wp2_with fail
                        go_roundw
                        case rel => exact ⟨j + 1, by omega, by go_num, hT.out.drewN _, bdN hb.out _, hst⟩
                        case measure => simp [intOf]; omega
                  · have : n3 = j := by omega
                    subst this
                    have hst : Hid (((rs.map Int.toNat).take (i + 1)).any (fun a => (rs.map Int.toNat).any fun b => a != b && S a == S b) = false) := by
                      show _ = _
                      rw [any_take (root_at hz1.out), hno.out]
                      have h := hnj.out
                      rw [List.take_of_length_le (by rw [List.length_map, hl3.out]; exact Nat.le_refl _)] at h
                      rw [h]
                      rfl
                    go_wp2_with fail
                    go_roundw
                    case rel => exact ⟨i + 1, by omega, by go_num, hT, hb, hst⟩
                    case measure => simp [intOf]; omega
              · have : n3 = i := by omega
                subst this
                have htwo : Hid (twoR (rs.map Int.toNat) S = false) := by
                  have h := hno.out
                  rwa [List.take_of_length_le (by rw [List.length_map, hl3.out]; exact Nat.le_refl _)] at h
                have hT4 := Lib.hid hT.out
                have hb4 := Lib.hid hb.out
                have hgl := hT.out.lt
                clear hT hb hno
                go_wp2_with fail
                have hgl2 : g + 1 ≤ wr.heap.size := hgl
                obtain ⟨S0, rfl⟩ : ∃ S0 : Nat → Nat, S0 = S := ⟨_, rfl⟩
                go_loopw [20, 94] (fun v20 v94 wr => S6 w g N rs S0 ls n2 v20 v94 wr) (fun _ i _ => n2 - (intOf i).toNat)
                case atStart => exact ⟨0, 0, S0, [], by omega, by omega, rfl, ⟨rfl, fun _ h => by cases h⟩, hT4, hb4, World.ownsRow_nil _ _ _ _⟩
                case round =>
                  clear hT4 hb4 hgl hgl2
                  obtain ⟨i, nb, S, br, hi, hnb, rfl, hL, hT, hb, hRow⟩ := hrel
                  by_cases hlt : i < n2
                  · obtain ⟨g', o, zs, A', n', c', rfl, hg', hzs, hcz', hLz⟩ := h2.cell hlt
                    obtain ⟨x, y, rfl, hx, hy⟩ := isA_nodes (hLA.out _ (List.mem_of_getElem? hzs))
                    obtain rfl : 2 = n' := hLz.1
                    obtain ⟨ga, oa, x', rfl, hga, hx', -, hcx'⟩ := hLz.cell (j := 0) (by omega)
                    obtain ⟨ga', oa', y', hA', -, hy', -, hcy'⟩ := hLz.cell (j := 1) (by omega)
                    obtain ⟨rfl, rfl⟩ : ga = ga' ∧ oa = oa' := by simpa using hA'
                    obtain rfl : (x : Int) = x' := by simpa using hx'
                    obtain rfl : (y : Int) = y' := by simpa using hy'
                    rw [Nat.add_zero] at hcx'
                    have hcz := (hb.out.cell (p := ⟨g', o + i, none⟩) hg').trans hcz'
                    have hcx := (hb.out.cell (p := ⟨ga, oa, none⟩) hga).trans hcx'
                    have hcy := (hb.out.cell (p := ⟨ga, oa + 1, none⟩) hga).trans hcy'
                    have hS : (fun w' : World => w'.cell? ⟨ga, oa, none⟩ = some (.int .i64 (x : Int)) ∧ w'.cell? ⟨ga, oa + 1, none⟩ = some (.int .i64 (y : Int))) wr.drew := ⟨hcx, hcy⟩
                    have hcx1 := Lib.hid hcx'
                    have hcy1 := Lib.hid hcy'
                    have hzs1 := Lib.hid hzs
                    have hm1 : Hid (1 = 1) := rfl
                    have hm2 : Hid (1 = 1) := rfl
                    clear hx' hy' hA' hzs hLz hcz' hcx' hcy'
                    cases hrx' : hasR (rs.map Int.toNat) S x with
                    | true =>
                      have hrx := Lib.hid hrx'
                      cases hry' : hasR (rs.map Int.toNat) S y with
                      | true =>
                        have hry := Lib.hid hry'
                        have hLS : Hid (looseF (rs.map Int.toNat) S0 ((ls.map toA).take (i + 1)) = (S, br ++ [i], i + 1)) := by
                          show _ = _
                          rw [looseF_step hL.out.1 hzs1.out, hrx.out, hry.out]
                          rfl
                        have hqx : ∀ k, Calls Try.prog 41 #[.slice (some ⟨g, 0, none⟩) N N, .slice A3 n3 c3, .int .i64 x] (wr.drewN k) fun e w' => e = .returned (.bool true) ∧ ∃ m, w' = wr.drewN m := fun k => by
                          have hc := ref11_hasRootQ g N S A3 n3 c3 rs x (wr.drewN k) hN2 (hT.out.drewN k) (h3.below (bdN hb.out k) (Nat.le_refl _)) hnn hx
                          rw [hrx.out] at hc
                          exact Calls.quiet_of hc
                        have hqy : ∀ k, Calls Try.prog 41 #[.slice (some ⟨g, 0, none⟩) N N, .slice A3 n3 c3, .int .i64 y] (wr.drewN k) fun e w' => e = .returned (.bool true) ∧ ∃ m, w' = wr.drewN m := fun k => by
                          have hc := ref11_hasRootQ g N S A3 n3 c3 rs y (wr.drewN k) hN2 (hT.out.drewN k) (h3.below (bdN hb.out k) (Nat.le_refl _)) hnn hy
                          rw [hry.out] at hc
                          exact Calls.quiet_of hc
                        have hqx := Lib.hid hqx
                        have hqy := Lib.hid hqy
                        go_wp2_with fail
                        go_quiet ((first | (go_at_call 41; first | (with_reducible exact hqx.out _) | (with_reducible exact hqy.out _))))
                        obtain ⟨wq, hwq⟩ : ∃ wq, wq = wr.drewN nq := ⟨_, rfl⟩
                        have hQ2 := And.intro (bdN hb.out nq) (And.intro (hT.out.drewN nq) (row_dN hRow.out nq))
                        rw [← hwq] at hQ2 ⊢
                        have hQ2 := Lib.hid hQ2
                        clear hwq hqx hqy
                        have hbM : g + 1 ≤ wq.heap.size := by have := hQ2.out.2.1.lt; omega
                        clear hS hT hRow hcx hcy hcz
                        go_wp2_with (at_builtin; refine wpList_append_own _ rfl _ _ 38 rfl (g + 1) 3 i0 (.int .i64 0) 1 8 Try.underlying38 hi0 hz0 hz1 hz2 rfl (by decide) _ nb (vi br) rfl (hQ2.out.2.2.alloc _) ⟨wq.heap.size, 0, none⟩ 1 1 [.int .i64 (i : Int)] rfl rfl (cell_one_new _ _ _) (by intro u hu; simp at hu; subst hu; rfl) (by unfold maxLen; omega) (by omega) (by simp; omega) ?_; intro v' w5 hRow5 hgr5 hnil5)
                        have hb5 : Hid (Below w.heap.size w w5) := (hQ2.out.1.alloc hQ2.out.1.size _).grown hgr5 (by have := hQ2.out.1.size; simp; omega) (fun b hb => by have := own_ge hQ2.out.2.2 b hb; omega)
                        have hT5 : Hid (TR w5 g N S) := (TR.call hQ2.out.2.1 ((Below.refl _ _).alloc (Nat.le_refl _) _)).grown hgr5 (fun e => by have := own_ge hQ2.out.2.2 g e; omega)
                        go_roundw
                        case rel => exact ⟨i + 1, nb + 1, S, br ++ [i], by omega, by omega, by go_num, ⟨hLS.out, br_lt hL.out.2⟩, hT5, hb5, by rw [vi_snoc]; exact hRow5⟩
                        case measure => simp [intOf]; omega
                      | false =>
                        have hry := Lib.hid hry'
                        go_wp2_with fail
                        go_region_held3 (fun w' : World => w'.cell? ⟨ga, oa, none⟩ = some (.int .i64 (x : Int)) ∧ w'.cell? ⟨ga, oa + 1, none⟩ = some (.int .i64 (y : Int)))
                          (first | (with_reducible exact hS))
                          (first
                            | (have hz := hm1; go_at_call 41; clear hz hm1; have hc := ref11_hasRoot g N S A3 n3 c3 rs x _ hN2 (And.intro hb.out.drew (And.intro (TR.drew hT.out) hRow.out.drew)).2.1 (h3.below (And.intro hb.out.drew (And.intro (TR.drew hT.out) hRow.out.drew)).1 (Nat.le_refl _)) hnn hx; rw [hrx.out] at hc; refine hc.mono ?_; clear hc; rintro e wp ⟨rfl, hbq⟩; have hQ1 := Lib.hid (And.intro ((And.intro hb.out.drew (And.intro (TR.drew hT.out) hRow.out.drew)).1.trans (hbq.mono (And.intro hb.out.drew (And.intro (TR.drew hT.out) hRow.out.drew)).1.size)) (And.intro (TR.call (And.intro hb.out.drew (And.intro (TR.drew hT.out) hRow.out.drew)).2.1 hbq) (World.ownsRow.call6 (And.intro hb.out.drew (And.intro (TR.drew hT.out) hRow.out.drew)).2.2 hbq))); clear hS; have hS : (fun w' : World => w'.cell? ⟨ga, oa, none⟩ = some (.int .i64 (x : Int)) ∧ w'.cell? ⟨ga, oa + 1, none⟩ = some (.int .i64 (y : Int))) wp := ⟨(hQ1.out.1.cell (p := ⟨ga, oa, none⟩) hga).trans hcx1.out, (hQ1.out.1.cell (p := ⟨ga, oa + 1, none⟩) hga).trans hcy1.out⟩)
                            | (have hz := hm2; go_at_call 41; clear hz hm2; have hc := ref11_hasRoot g N S A3 n3 c3 rs y _ hN2 hQ1.out.2.1 (h3.below hQ1.out.1 (Nat.le_refl _)) hnn hy; rw [hry.out] at hc; refine hc.mono ?_; clear hc; rintro e wq ⟨rfl, hbq⟩; have hQ2 := Lib.hid (And.intro (hQ1.out.1.trans (hbq.mono hQ1.out.1.size)) (And.intro (TR.call hQ1.out.2.1 hbq) (World.ownsRow.call6 hQ1.out.2.2 hbq))); clear hS; have hS : (fun w' : World => w'.cell? ⟨ga, oa, none⟩ = some (.int .i64 (x : Int)) ∧ w'.cell? ⟨ga, oa + 1, none⟩ = some (.int .i64 (y : Int))) wq := ⟨(hQ2.out.1.cell (p := ⟨ga, oa, none⟩) hga).trans hcx1.out, (hQ2.out.1.cell (p := ⟨ga, oa + 1, none⟩) hga).trans hcy1.out⟩)
                            | (go_at_call 40; refine (ref11_join g N S x y _ hN2 hQ2.out.2.1 hx hy).mono ?_; rintro e wJ ⟨cJ, rfl, hPJ, hgJ⟩; have hbJ := Lib.hid (And.intro (Below.grown hQ2.out.1 hgJ hQ2.out.1.size (fun b hb => by injection hb with hb; omega)) (hQ2.out.2.2.kept hgJ (own_ne hQ2.out.2.2 (by omega)))); clear hS; have hS : (fun w' : World => w'.cell? ⟨ga, oa, none⟩ = some (.int .i64 (x : Int)) ∧ w'.cell? ⟨ga, oa + 1, none⟩ = some (.int .i64 (y : Int))) wJ := ⟨(hbJ.out.1.cell (p := ⟨ga, oa, none⟩) hga).trans hcx1.out, (hbJ.out.1.cell (p := ⟨ga, oa + 1, none⟩) hga).trans hcy1.out⟩))
                        have hLS0 := looseF_step hL.out.1 hzs1.out
                        rw [hrx.out, hry.out] at hLS0
                        rcases hPJ.out with ⟨rfl, hne, hTJ⟩ | ⟨rfl, heq, hTJ⟩
                        · have hLS : Hid (looseF (rs.map Int.toNat) S0 ((ls.map toA).take (i + 1)) = (lab S x y, br, i + 1)) := by
                            show _ = _
                            rw [hLS0]
                            simp [hne]
                          have hTJ := Lib.hid hTJ
                          clear hPJ hS hne hLS0
                          go_wp2_with fail
                          go_roundw
                          case rel => exact ⟨i + 1, nb, lab S x y, br, by omega, by omega, by go_num, ⟨hLS.out, fun b hb => by have := hL.out.2 b hb; omega⟩, hTJ, hbJ.out.1, hbJ.out.2⟩
                          case measure => simp [intOf]; omega
                        · have hLS : Hid (looseF (rs.map Int.toNat) S0 ((ls.map toA).take (i + 1)) = (S, br ++ [i], i + 1)) := by
                            show _ = _
                            rw [hLS0]
                            simp [heq]
                          have hJ3 := Lib.hid (And.intro hbJ.out.1 (And.intro hTJ hbJ.out.2))
                          have hbM : g + 1 ≤ wJ.heap.size := by have := hTJ.lt; omega
                          clear hPJ hS heq hLS0 hTJ
                          go_wp2_with (at_builtin; refine wpList_append_own _ rfl _ _ 38 rfl (g + 1) 3 i0 (.int .i64 0) 1 8 Try.underlying38 hi0 hz0 hz1 hz2 rfl (by decide) _ nb (vi br) rfl (hJ3.out.2.2.alloc _) ⟨wJ.heap.size, 0, none⟩ 1 1 [.int .i64 (i : Int)] rfl rfl (cell_one_new _ _ _) (by intro u hu; simp at hu; subst hu; rfl) (by unfold maxLen; omega) (by omega) (by simp; omega) ?_; intro v' w5 hRow5 hgr5 hnil5)
                          have hb5 : Hid (Below w.heap.size w w5) := (hJ3.out.1.alloc hJ3.out.1.size _).grown hgr5 (by have := hJ3.out.1.size; simp; omega) (fun b hb => by have := own_ge hJ3.out.2.2 b hb; omega)
                          have hT5 : Hid (TR w5 g N S) := (TR.call hJ3.out.2.1 ((Below.refl _ _).alloc (Nat.le_refl _) _)).grown hgr5 (fun e => by have := own_ge hJ3.out.2.2 g e; omega)
                          go_roundw
                          case rel => exact ⟨i + 1, nb + 1, S, br ++ [i], by omega, by omega, by go_num, ⟨hLS.out, br_lt hL.out.2⟩, hT5, hb5, by rw [vi_snoc]; exact hRow5⟩
                          case measure => simp [intOf]; omega
                    | false =>
                      have hrx := Lib.hid hrx'
                      have hT0 := hT.out
                      go_wp2_with fail
                      refine wp_region_K' (S := (fun w' : World => w'.cell? ⟨ga, oa, none⟩ = some (.int .i64 (x : Int)) ∧ w'.cell? ⟨ga, oa + 1, none⟩ = some (.int .i64 (y : Int)))) (K := [22]) (by kernel_rfl) ?_
                      refine AnyK'.take (i := 0) (v := .slice (some ⟨g, 0, none⟩) N N) rfl (by kernel_rfl) (by kernel_rfl) (by kernel_rfl) (by kernel_rfl) (by kernel_rfl) (by kernel_rfl) (fun _ _ _ h => h) (Or.inl ⟨by rfl, ?_⟩) hS ?_
                      · rintro w' ⟨a0, a1⟩
                        go_simp
                      (try simp only [Act.put, List.setIfInBounds_toArray, List.set_cons_zero, List.set_cons_succ])
                      refine AnyK'.take (i := 1) (v := .slice A3 n3 c3) rfl (by kernel_rfl) (by kernel_rfl) (by kernel_rfl) (by kernel_rfl) (by kernel_rfl) (by kernel_rfl) (fun _ _ _ h => h) (Or.inl ⟨by rfl, ?_⟩) hS ?_
                      · rintro w' ⟨a0, a1⟩
                        go_simp
                      (try simp only [Act.put, List.setIfInBounds_toArray, List.set_cons_zero, List.set_cons_succ])
                      refine AnyK'.take (i := 2) (v := .slice (some ⟨ga, oa, none⟩) 2 c') rfl (by kernel_rfl) (by kernel_rfl) (by kernel_rfl) (by kernel_rfl) (by kernel_rfl) (by kernel_rfl) (fun _ _ _ h => h) (Or.inl ⟨by rfl, ?_⟩) hS ?_
                      · rintro w' ⟨a0, a1⟩
                        go_simp
                      (try simp only [Act.put, List.setIfInBounds_toArray, List.set_cons_zero, List.set_cons_succ])
                      refine AnyK'.take (i := 3) (v := .pointer (some ⟨ga, oa, none⟩)) rfl (by kernel_rfl) (by kernel_rfl) (by kernel_rfl) (by kernel_rfl) (by kernel_rfl) (by kernel_rfl) (fun _ _ _ h => h) (Or.inl ⟨by rfl, ?_⟩) hS ?_
                      · rintro w' ⟨a0, a1⟩
                        go_simp
                      (try simp only [Act.put, List.setIfInBounds_toArray, List.set_cons_zero, List.set_cons_succ])
                      refine AnyK'.take (i := 4) (v := .int .i64 (x : Int)) rfl (by kernel_rfl) (by kernel_rfl) (by kernel_rfl) (by kernel_rfl) (by kernel_rfl) (by kernel_rfl) (fun _ _ _ h => h) (Or.inl ⟨by rfl, ?_⟩) hS ?_
                      · rintro w' ⟨a0, a1⟩
                        go_simp
                      (try simp only [Act.put, List.setIfInBounds_toArray, List.set_cons_zero, List.set_cons_succ])
                      have hc := ref11_hasRootQ g N S A3 n3 c3 rs x _ hN2 hT0.drew (h3.below hb.out.drew (Nat.le_refl _)) hnn hx
                      rw [hrx.out] at hc
                      refine AnyK'.one (i := 5) (by kernel_rfl) rfl (fun K' hK => ?_)
                      go_simp
                      refine hc.mono ?_
                      clear hc
                      rintro e wp ⟨rfl, kp, rfl⟩
                      have hS : (fun w' : World => w'.cell? ⟨ga, oa, none⟩ = some (.int .i64 (x : Int)) ∧ w'.cell? ⟨ga, oa + 1, none⟩ = some (.int .i64 (y : Int))) (wr.drew.drewN kp) := hS
                      refine hK.out _ _ (fun _ => hS) ?_
                      clear hK
                      (try simp only [Act.put, List.setIfInBounds_toArray, List.set_cons_zero, List.set_cons_succ])
                      refine AnyK'.take (i := 6) (v := .bool false) rfl (by kernel_rfl) (by kernel_rfl) (by kernel_rfl) (by kernel_rfl) (by kernel_rfl) (by kernel_rfl) (fun _ _ _ h => h) (Or.inl ⟨by rfl, ?_⟩) hS ?_
                      · rintro w' ⟨a0, a1⟩
                        go_simp
                      (try simp only [Act.put, List.setIfInBounds_toArray, List.set_cons_zero, List.set_cons_succ])
                      refine AnyK'.take (i := 7) (v := undef) rfl (by kernel_rfl) (by kernel_rfl) (by kernel_rfl) (by kernel_rfl) (by kernel_rfl) (by kernel_rfl) (fun _ _ _ h => h) (Or.inr ⟨by simp [Region.wanted, yielded], rfl⟩) hS ?_
                      (try simp only [Act.put, List.setIfInBounds_toArray, List.set_cons_zero, List.set_cons_succ])
                      refine AnyK'.take (i := 8) (v := undef) rfl (by kernel_rfl) (by kernel_rfl) (by kernel_rfl) (by kernel_rfl) (by kernel_rfl) (by kernel_rfl) (fun _ _ _ h => h) (Or.inr ⟨by simp [Region.wanted, yielded], rfl⟩) hS ?_
                      (try simp only [Act.put, List.setIfInBounds_toArray, List.set_cons_zero, List.set_cons_succ])
                      refine AnyK'.take (i := 9) (v := undef) rfl (by kernel_rfl) (by kernel_rfl) (by kernel_rfl) (by kernel_rfl) (by kernel_rfl) (by kernel_rfl) (fun _ _ _ h => h) (Or.inr ⟨by simp [Region.wanted, yielded], rfl⟩) hS ?_
                      (try simp only [Act.put, List.setIfInBounds_toArray, List.set_cons_zero, List.set_cons_succ])
                      refine AnyK'.take (i := 10) (v := undef) rfl (by kernel_rfl) (by kernel_rfl) (by kernel_rfl) (by kernel_rfl) (by kernel_rfl) (by kernel_rfl) (fun _ _ _ h => h) (Or.inr ⟨by simp [Region.wanted, yielded], rfl⟩) hS ?_
                      (try simp only [Act.put, List.setIfInBounds_toArray, List.set_cons_zero, List.set_cons_succ])
                      refine AnyK'.take (i := 11) (v := undef) rfl (by kernel_rfl) (by kernel_rfl) (by kernel_rfl) (by kernel_rfl) (by kernel_rfl) (by kernel_rfl) (fun _ _ _ h => h) (Or.inr ⟨by simp [Region.wanted, yielded], rfl⟩) hS ?_
                      (try simp only [Act.put, List.setIfInBounds_toArray, List.set_cons_zero, List.set_cons_succ])
                      refine AnyK'.take (i := 12) (v := undef) rfl (by kernel_rfl) (by kernel_rfl) (by kernel_rfl) (by kernel_rfl) (by kernel_rfl) (by kernel_rfl) (fun _ _ _ h => h) (Or.inr ⟨by simp [Region.wanted, yielded], rfl⟩) hS ?_
                      (try simp only [Act.put, List.setIfInBounds_toArray, List.set_cons_zero, List.set_cons_succ])
                      refine AnyK'.take (i := 13) (v := .bool false) rfl (by kernel_rfl) (by kernel_rfl) (by kernel_rfl) (by kernel_rfl) (by kernel_rfl) (by kernel_rfl) (fun _ _ _ h => h) (Or.inl ⟨by rfl, ?_⟩) hS ?_
                      · rintro w' ⟨a0, a1⟩
                        go_simp
                      (try simp only [Act.put, List.setIfInBounds_toArray, List.set_cons_zero, List.set_cons_succ])
                      refine AnyK'.take (i := 14) (v := .bool false) rfl (by kernel_rfl) (by kernel_rfl) (by kernel_rfl) (by kernel_rfl) (by kernel_rfl) (by kernel_rfl) (fun _ _ _ h => h) (Or.inl ⟨by rfl, ?_⟩) hS ?_
                      · rintro w' ⟨a0, a1⟩
                        go_simp
                      (try simp only [Act.put, List.setIfInBounds_toArray, List.set_cons_zero, List.set_cons_succ])
                      refine AnyK'.take (i := 15) (v := .slice (some ⟨g, 0, none⟩) N N) rfl (by kernel_rfl) (by kernel_rfl) (by kernel_rfl) (by kernel_rfl) (by kernel_rfl) (by kernel_rfl) (fun _ _ _ h => h) (Or.inl ⟨by simp [Region.wanted, yielded], ?_⟩) hS ?_
                      · rintro w' ⟨a0, a1⟩
                        go_simp
                      (try simp only [Act.put, List.setIfInBounds_toArray, List.set_cons_zero, List.set_cons_succ])
                      refine AnyK'.take (i := 16) (v := .slice (some ⟨ga, oa, none⟩) 2 c') rfl (by kernel_rfl) (by kernel_rfl) (by kernel_rfl) (by kernel_rfl) (by kernel_rfl) (by kernel_rfl) (fun _ _ _ h => h) (Or.inl ⟨by simp [Region.wanted, yielded], ?_⟩) hS ?_
                      · rintro w' ⟨a0, a1⟩
                        go_simp
                      (try simp only [Act.put, List.setIfInBounds_toArray, List.set_cons_zero, List.set_cons_succ])
                      refine AnyK'.take (i := 17) (v := .pointer (some ⟨ga, oa, none⟩)) rfl (by kernel_rfl) (by kernel_rfl) (by kernel_rfl) (by kernel_rfl) (by kernel_rfl) (by kernel_rfl) (fun _ _ _ h => h) (Or.inl ⟨by simp [Region.wanted, yielded], ?_⟩) hS ?_
                      · rintro w' ⟨a0, a1⟩
                        go_simp
                      (try simp only [Act.put, List.setIfInBounds_toArray, List.set_cons_zero, List.set_cons_succ])
                      refine AnyK'.take (i := 18) (v := .int .i64 (x : Int)) rfl (by kernel_rfl) (by kernel_rfl) (by kernel_rfl) (by kernel_rfl) (by kernel_rfl) (by kernel_rfl) (fun _ _ _ h => h) (Or.inl ⟨by simp [Region.wanted, yielded], ?_⟩) hS ?_
                      · rintro w' ⟨a0, a1⟩
                        go_simp
                      (try simp only [Act.put, List.setIfInBounds_toArray, List.set_cons_zero, List.set_cons_succ])
                      refine AnyK'.take (i := 19) (v := .slice (some ⟨ga, oa, none⟩) 2 c') rfl (by kernel_rfl) (by kernel_rfl) (by kernel_rfl) (by kernel_rfl) (by kernel_rfl) (by kernel_rfl) (fun _ _ _ h => h) (Or.inl ⟨by simp [Region.wanted, yielded], ?_⟩) hS ?_
                      · rintro w' ⟨a0, a1⟩
                        go_simp
                      (try simp only [Act.put, List.setIfInBounds_toArray, List.set_cons_zero, List.set_cons_succ])
                      refine AnyK'.take (i := 20) (v := .pointer (some ⟨ga, oa + 1, none⟩)) rfl (by kernel_rfl) (by kernel_rfl) (by kernel_rfl) (by kernel_rfl) (by kernel_rfl) (by kernel_rfl) (fun _ _ _ h => h) (Or.inl ⟨by simp [Region.wanted, yielded], ?_⟩) hS ?_
                      · rintro w' ⟨a0, a1⟩
                        go_simp
                      (try simp only [Act.put, List.setIfInBounds_toArray, List.set_cons_zero, List.set_cons_succ])
                      refine AnyK'.take (i := 21) (v := .int .i64 (y : Int)) rfl (by kernel_rfl) (by kernel_rfl) (by kernel_rfl) (by kernel_rfl) (by kernel_rfl) (by kernel_rfl) (fun _ _ _ h => h) (Or.inl ⟨by simp [Region.wanted, yielded], ?_⟩) hS ?_
                      · rintro w' ⟨a0, a1⟩
                        go_simp
                      (try simp only [Act.put, List.setIfInBounds_toArray, List.set_cons_zero, List.set_cons_succ])
                      refine AnyK'.one (i := 22) (by kernel_rfl) rfl (fun K' hK => ?_)
                      go_simp
                      refine (ref11_join g N S x y _ hN2 (by exact hT0) hx hy).mono ?_
                      rintro e wJ ⟨cJ, rfl, hPJ, hgJ⟩
                      have hbJ := Lib.hid (And.intro (Below.grown (bdN hb.out _) hgJ hb.out.size (fun b hb => by injection hb with hb; omega)) ((row_dN hRow.out _).kept hgJ (own_ne hRow.out (by omega))))
                      refine hK.out _ _ (fun h => absurd h (Bool.eq_false_iff.1 (by kernel_rfl))) ?_
                      clear hK
                      (try simp only [Act.put, List.setIfInBounds_toArray, List.set_cons_zero, List.set_cons_succ])
                      refine AnyK'.one (i := 23) (by kernel_rfl) rfl (fun K' hK => ?_)
                      go_simp
                      refine hK.out _ _ (fun h => absurd h (Bool.eq_false_iff.1 (by kernel_rfl))) ?_
                      clear hK
                      (try simp only [Act.put, List.setIfInBounds_toArray, List.set_cons_zero, List.set_cons_succ])
                      refine AnyK'.one (i := 24) (by kernel_rfl) rfl (fun K' hK => ?_)
                      go_simp
                      refine hK.out _ _ (fun h => absurd h (Bool.eq_false_iff.1 (by kernel_rfl))) ?_
                      clear hK
                      (try simp only [Act.put, List.setIfInBounds_toArray, List.set_cons_zero, List.set_cons_succ])
                      refine AnyK'.done (by kernel_rfl) ?_ _
                      have hLS0 := looseF_step hL.out.1 hzs1.out
                      rw [hrx.out] at hLS0
                      rcases hPJ.out with ⟨rfl, hne, hTJ⟩ | ⟨rfl, heq, hTJ⟩
                      · have hLS : Hid (looseF (rs.map Int.toNat) S0 ((ls.map toA).take (i + 1)) = (lab S x y, br, i + 1)) := by
                          show _ = _
                          rw [hLS0]
                          simp [hne]
                        have hTJ := Lib.hid hTJ
                        clear hPJ hS hne hLS0
                        go_wp2_with fail
                        go_roundw
                        case rel => exact ⟨i + 1, nb, lab S x y, br, by omega, by omega, by go_num, ⟨hLS.out, fun b hb => by have := hL.out.2 b hb; omega⟩, hTJ, hbJ.out.1, hbJ.out.2⟩
                        case measure => simp [intOf]; omega
                      · have hLS : Hid (looseF (rs.map Int.toNat) S0 ((ls.map toA).take (i + 1)) = (S, br ++ [i], i + 1)) := by
                          show _ = _
                          rw [hLS0]
                          simp [heq]
                        have hJ3 := Lib.hid (And.intro hbJ.out.1 (And.intro hTJ hbJ.out.2))
                        have hbM : g + 1 ≤ wJ.heap.size := by have := hTJ.lt; omega
                        clear hPJ hS heq hLS0 hTJ
                        go_wp2_with (at_builtin; refine wpList_append_own _ rfl _ _ 38 rfl (g + 1) 3 i0 (.int .i64 0) 1 8 Try.underlying38 hi0 hz0 hz1 hz2 rfl (by decide) _ nb (vi br) rfl (hJ3.out.2.2.alloc _) ⟨wJ.heap.size, 0, none⟩ 1 1 [.int .i64 (i : Int)] rfl rfl (cell_one_new _ _ _) (by intro u hu; simp at hu; subst hu; rfl) (by unfold maxLen; omega) (by omega) (by simp; omega) ?_; intro v' w5 hRow5 hgr5 hnil5)
                        have hb5 : Hid (Below w.heap.size w w5) := (hJ3.out.1.alloc hJ3.out.1.size _).grown hgr5 (by have := hJ3.out.1.size; simp; omega) (fun b hb => by have := own_ge hJ3.out.2.2 b hb; omega)
                        have hT5 : Hid (TR w5 g N S) := (TR.call hJ3.out.2.1 ((Below.refl _ _).alloc (Nat.le_refl _) _)).grown hgr5 (fun e => by have := own_ge hJ3.out.2.2 g e; omega)
                        go_roundw
                        case rel => exact ⟨i + 1, nb + 1, S, br ++ [i], by omega, by omega, by go_num, ⟨hLS.out, br_lt hL.out.2⟩, hT5, hb5, by rw [vi_snoc]; exact hRow5⟩
                        case measure => simp [intOf]; omega
                  · have : n2 = i := by omega
                    subst this
                    obtain ⟨Ab, cb, rfl⟩ := own_slice hRow.out
                    have hLF : Hid (looseF (rs.map Int.toNat) S0 (ls.map toA) = (S, br, n2)) := by
                      have h := hL.out.1
                      rwa [List.take_of_length_le (by rw [List.length_map, hl2.out]; exact Nat.le_refl _)] at h
                    have hans : Hid (forestS N fs ls rs = (0, br, (List.range N).filter (outB (rs.map Int.toNat) S))) := by
                      show _ = _
                      unfold forestS
                      rw [if_neg (by rw [hgf.out]; simp), if_neg (by have := hlf1.out; have := hlf2.out; omega), hFS.out]
                      simp only []
                      rw [htwo.out, hLF.out]
                      simp
                    have hBr : Hid (LN wr Ab nb cb br) := LN.own hRow.out (by omega) (fun x hx => by have := hL.out.2 x hx; omega)
                    obtain ⟨w60, rfl⟩ : ∃ w60 : World, w60 = wr := ⟨_, rfl⟩
                    have hT7 := Lib.hid hT.out
                    have hb7 := Lib.hid hb.out
                    have hgl7 := hT.out.lt
                    clear hT hb hRow hL hLF
                    go_wp2_with fail
                    go_loopw [21, 131] (fun v21 v131 wr => S7 w w60 g N w60.heap.size rs S v21 v131 wr) (fun _ i _ => N - (intOf i).toNat)
                    case atStart => exact ⟨0, 0, by omega, by omega, rfl, hT7, hb7, Below.refl _ _, World.ownsRow_nil _ _ _ _⟩
                    case round =>
                      clear hT7 hb7
                      obtain ⟨i, no, hi, hno, rfl, hT, hb, hB6, hRow⟩ := hrel
                      by_cases hlt : i < N
                      · obtain ⟨Ao, co, rfl⟩ := own_slice hRow.out
                        have hci := hT.out.cell hlt
                        have hSi := hT.out.2 i hlt
                        obtain ⟨hr, hhr⟩ : ∃ hr, hr = hasR (rs.map Int.toNat) S i := ⟨_, rfl⟩
                        have hq := ref11_hasRootQ g N S A3 n3 c3 rs i wr hN2 hT.out (h3.below hb.out (Nat.le_refl _)) hnn hlt
                        rw [← hhr] at hq
                        have hq := Lib.hid hq
                        have hhr := Lib.hid hhr
                        go_upto_region 36 with fail
                        obtain ⟨b0, hb0⟩ : ∃ b0, b0 = (S i == i && !hr) := ⟨_, rfl⟩
                        go_cut [25] from 134 to 146 (fun v25 wc => S9 w w60 g N w60.heap.size rs S i no (.slice Ao no co) b0 v25 wc)
                        case first =>
                          by_cases hii : S i = i
                          · have hii' : ((S i : Int) == (i : Int)) = true := by simp [hii]
                            have e0 : b0 = !hr := by rw [hb0]; simp [hii]
                            clear hb0
                            subst e0
                            have hii := Lib.hid hii
                            go_wp2_with fail
                            refine hq.out.mono ?_
                            clear hq
                            rintro e wq ⟨rfl, kq, rfl⟩
                            go_wp2_with fail
                            go_meet
                            exact ⟨by rw [hhr.out], hT.out.drewN _, bdN hb.out _, bdN hB6.out _, row_dN hRow.out _⟩
                          · have hii' : ((S i : Int) == (i : Int)) = false := by simp; omega
                            have e0 : b0 = false := by rw [hb0]; simp [hii]
                            clear hb0
                            subst e0
                            have hii := Lib.hid hii
                            go_wp2_with fail
                            go_meet
                            exact ⟨rfl, hT, hb, hB6, hRow⟩
                        case rest =>
                          clear hT hb hB6 hRow hci hq
                          obtain ⟨rfl, hT, hb, hB6, hRow⟩ := hcut
                          have hb0 := Lib.hid hb0
                          go_wp2_with fail
                          go_loopw [25, 149] (fun v25 v149 wr => S8 w w60 g N w60.heap.size rs S i no (.slice Ao no co) b0 n3 v25 v149 wr) (fun _ j _ => n3 - (intOf j).toNat)
                          case atStart => exact ⟨0, b0, by omega, rfl, rfl, by show _ = _; simp, hT, hb, hB6, hRow⟩
                          case round =>
                            clear hT hb hB6 hRow
                            obtain ⟨j, b, hj, rfl, rfl, hbv, hT, hb, hB6, hRow⟩ := hrel
                            by_cases hltj : j < n3
                            · obtain ⟨g2, o2, z2, hA2, hg2, hzz, -, hcz2'⟩ := h3.cell hltj
                              subst hA2
                              obtain ⟨y, rfl, hy⟩ := hnn.out _ (List.mem_of_getElem? hzz)
                              have hcz2 := (hb.out.cell (p := ⟨g2, o2 + j, none⟩) hg2).trans hcz2'
                              have hbn : Hid ((b || y == i) = (b0 || ((rs.map Int.toNat).take (j + 1)).contains i)) := by
                                show _ = _
                                rw [take_at (root_at hzz), List.contains_append, hbv.out, Bool.or_assoc]
                                rw [show [y].contains i = (y == i) by rw [Bool.eq_iff_iff]; simp; exact eq_comm]
                              have hzz1 := Lib.hid hzz
                              clear hzz hcz2' hbv
                              cases b with
                              | true =>
                                have hbn : Hid (true = (b0 || ((rs.map Int.toNat).take (j + 1)).contains i)) := by have h := hbn.out; rwa [Bool.true_or] at h
                                go_wp2_with fail
                                go_roundw
                                case rel => exact ⟨j + 1, true, by omega, by go_num, rfl, hbn, hT, hb, hB6, hRow⟩
                                case measure => simp [intOf]; omega
                              | false =>
                                by_cases hyi : y = i
                                · have hyi' : ((y : Int) == (i : Int)) = true := by simp [hyi]
                                  have hbn : Hid (true = (b0 || ((rs.map Int.toNat).take (j + 1)).contains i)) := by have h := hbn.out; rwa [Bool.false_or, beq_iff_eq.2 hyi] at h
                                  have hyi := Lib.hid hyi
                                  go_wp2_with fail
                                  go_roundw
                                  case rel => exact ⟨j + 1, true, by omega, by go_num, rfl, hbn, hT, hb, hB6, hRow⟩
                                  case measure => simp [intOf]; omega
                                · have hyi' : ((y : Int) == (i : Int)) = false := by simp; omega
                                  have hbn : Hid (false = (b0 || ((rs.map Int.toNat).take (j + 1)).contains i)) := by have h := hbn.out; rwa [Bool.false_or, beq_false_of_ne hyi] at h
                                  have hyi := Lib.hid hyi
                                  go_wp2_with fail
                                  go_roundw
                                  case rel => exact ⟨j + 1, false, by omega, by go_num, rfl, hbn, hT, hb, hB6, hRow⟩
                                  case measure => simp [intOf]; omega
                            · have : n3 = j := by omega
                              subst this
                              have hbo : Hid (b = outB (rs.map Int.toNat) S i) := by
                                show _ = _
                                have h := hbv.out
                                rw [List.take_of_length_le (by rw [List.length_map, hl3.out]; exact Nat.le_refl _), hb0.out, hhr.out] at h
                                rw [h]
                                unfold outB
                                rw [Bool.or_comm]
                              clear hbv
                              cases b with
                              | true =>
                                have hfs : Hid ((List.range (i + 1)).filter (outB (rs.map Int.toNat) S) = (List.range i).filter (outB (rs.map Int.toNat) S) ++ [i]) := by
                                  show _ = _
                                  rw [out_step, ← hbo.out]
                                  rfl
                                have hbM : w60.heap.size ≤ wr.heap.size := hB6.out.size
                                go_wp2_with (at_builtin; refine wpList_append_own _ rfl _ _ 38 rfl w60.heap.size 3 i0 (.int .i64 0) 1 8 Try.underlying38 hi0 hz0 hz1 hz2 rfl (by decide) _ no (vi ((List.range i).filter (outB (rs.map Int.toNat) S))) rfl (hRow.out.alloc _) ⟨wr.heap.size, 0, none⟩ 1 1 [.int .i64 (i : Int)] rfl rfl (cell_one_new _ _ _) (by intro u hu; simp at hu; subst hu; rfl) (by unfold maxLen; omega) (by omega) (by simp; omega) ?_; intro v' w5 hRow5 hgr5 hnil5)
                                have hb5 : Hid (Below w.heap.size w w5) := (hb.out.alloc hb.out.size _).grown hgr5 (by have := hb.out.size; simp; omega) (fun b hb2 => by have := own_ge hRow.out b hb2; have := hb.out.size; omega)
                                have hB5 : Hid (Below w60.heap.size w60 w5) := (hB6.out.alloc hB6.out.size _).grown hgr5 (by have := hB6.out.size; simp; omega) (fun b hb2 => own_ge hRow.out b hb2)
                                have hT5 : Hid (TR w5 g N S) := (TR.call hT.out ((Below.refl _ _).alloc (Nat.le_refl _) _)).grown hgr5 (fun e => by have := own_ge hRow.out g e; omega)
                                go_roundw
                                case rel => exact ⟨i + 1, no + 1, by omega, by omega, by go_num, hT5, hb5, hB5, by rw [hfs.out, vi_snoc]; exact hRow5⟩
                                case measure => simp [intOf]; omega
                              | false =>
                                have hfs : Hid ((List.range (i + 1)).filter (outB (rs.map Int.toNat) S) = (List.range i).filter (outB (rs.map Int.toNat) S)) := by
                                  show _ = _
                                  rw [out_step, ← hbo.out]
                                  simp
                                go_wp2_with fail
                                go_roundw
                                case rel => exact ⟨i + 1, no, by omega, by omega, by go_num, hT, hb, hB6, by rw [hfs.out]; exact hRow.out⟩
                                case measure => simp [intOf]; omega
                      · have : N = i := by omega
                        subst this
                        obtain ⟨Ao, co, rfl⟩ := own_slice hRow.out
                        go_wp2_with fail
                        go_ret3
                        rw [hans.out]
                        exact ⟨Ab, nb, cb, Ao, no, co, rfl, hb.out, hBr.out.below hB6.out (Nat.le_refl _), LN.own hRow.out (by omega) (fun x hx => by rw [List.mem_filter, List.mem_range] at hx; omega)⟩
  · have he' : (er != 0) = true := by simpa using he
    have hans : Hid (forestS n fs ls rs = (er, [], [])) := by rw [her]; exact are_ans (by rw [← her]; exact he)
    clear her he
    go_wp2_with fail
    go_ret3
    exact PForestS.err hans.out hbw.out

end Go.Proofs.Ytgoojlnfobjplaa
