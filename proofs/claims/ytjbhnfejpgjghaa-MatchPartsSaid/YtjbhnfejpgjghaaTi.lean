/- The reference's Perfect: the walk. -/
import Derived.Test.YtjbhnfejpgjghaaTh
import Derived.Test.YtjbhnfejpgjghaaMr
namespace Go.Proofs.Ytjbhnfejpgjghaa
open Go.RowKit
set_option linter.unusedSimpArgs false
set_option linter.unusedVariables false

/-- what is listed is a matching of all rows -/
theorem root_full {z : LZ} (hI : Inc z.R z.R z.E) : gateF z z.R [] (fun _ => false) [] = perf z.E z.R z.R z.most z.R [] (fun _ => false) [] := by
  unfold gateF
  split
  · rename_i h
    have h : sz z.E (fun _ => !false) (fun r => decide (z.R - z.R ≤ r)) z.R z.R < z.R := h
    cases hp : perf z.E z.R z.R z.most z.R [] (fun _ => false) [] with
    | nil => rfl
    | cons p ps =>
      exfalso
      rcases perf_sound (E := z.E) (R := z.R) (C := z.R) (most := z.most) z.R [] (fun _ => false) [] p (by rw [hp]; exact List.mem_cons_self ..) with h1 | ⟨s, h1, -⟩
      · cases h1
      · obtain ⟨f, hf, hall, -⟩ := cmp_asg z.R (fun _ => false) s (Nat.le_refl _) h1
        have h2 := asg_le hI.2.2.2 (fill_fi (ok := fun _ => !false) (rows := fun r => decide (z.R - z.R ≤ r)) hI.2.2.2 z.R (Nat.le_refl _)) hf
        have h3 : cnt f z.R = z.R := by
          rw [cnt_len]
          have : (List.range z.R).filter (fun r => decide (0 ≤ f r)) = List.range z.R := by
            rw [List.filter_eq_self]
            intro r hr
            have := hall r (List.mem_range.1 hr) (by omega)
            simpa using this
          rw [this, List.length_range]
        have h4 : cnt (fill z.E (fun _ => !false) (fun r => decide (z.R - z.R ≤ r)) z.R z.R).1 z.R < z.R := h
        omega
  · rfl
theorem LX.ol {z : LZ} {way : List Int} {used : Nat → Bool} {out : List (List Int)} {vw vo : Value} {hs : List Value} {w : World} (h : LX z way used out vw vo hs w) (hn : out.length ≤ 1000) (hl : ∀ l ∈ out, l.length ≤ 1000) : ∃ A c, vo = .slice A out.length c ∧ out.length ≤ c ∧ (0 < out.length → ∃ g, A = some ⟨g, 0, none⟩) ∧ OL w A out.length c out := by
  have h0 := h.row
  rcases h.row.2 with ⟨h1, h2⟩ | ⟨g, cap, cur, rfl, h3, h4, h5, h6⟩
  · have : out = [] := List.eq_nil_of_length_eq_zero h2
    subst this
    exact ⟨none, 0, h1, Nat.le_refl _, fun h => absurd h (by simp), OL.nil _⟩
  · refine ⟨_, _, rfl, h5, fun _ => ⟨g, rfl⟩, rfl, by omega, .inr ⟨g, 0, rfl, (h.voAt (g := g) rfl).2, fun j l hj => ?_⟩⟩
    have hjl := (List.getElem?_eq_some_iff.1 hj).1
    have hlen := h.row.1
    have hv : hs[j]? = some hs[j] := List.getElem?_eq_getElem (by omega)
    obtain ⟨A', n', c', e1, e2⟩ := (h.el j l _ hj hv).il (by have := hl l (List.mem_of_getElem? hj); omega)
    refine ⟨A', n', c', ?_, e2⟩
    have h7 := World.ownsRow.cells h0 (g := g) rfl j _ hv
    rw [show (⟨g, 0, none⟩ : Addr).add j = ⟨g, 0 + j, none⟩ from by unfold Addr.add; split <;> simp_all] at h7
    rw [h7, e1]

set_option maxRecDepth 100000 in
set_option maxHeartbeats 1000000 in
theorem ref_perfect (rows cols : Int) (A : Option Addr) (n c : Nat) (ls : List (List Int)) (most : Int) (w : World) (hL : L2 w A n c ls) (hr : In64 rows) (hc : In64 cols) (hm : In64 most) :
    Calls Try.prog 18 #[.agg #[.int .i64 rows, .int .i64 cols, .slice A n c], .int .i64 most] w (PPf rows cols ls most w) := by
  have hu := Try.underlying74
  have hu3 := Try.underlying33
  obtain ⟨j0, hj0, yz0, yz1, yz2⟩ := infoB_parts
  have hO := Own.one w 33 #[.int .i64 rows, .int .i64 cols, .slice A n c]
  have hV := ref_validate rows cols A n c ls _ (hL.below hO.1 (Nat.le_refl _)) hr hc
  obtain ⟨m0, m1, m2⟩ := cells3 hO.b0
  have hO' := Lib.hid hO
  rcases vErr_two rows cols ls with h0 | h1
  · rw [h0] at hV
    have hV' := Lib.hid hV
    obtain ⟨e1, e2, hI, hnn⟩ := inc_of h0
    have hN := n2_of hL hnn
    have h0' := Lib.hid h0
    have e1' := Lib.hid e1
    clear hV h0 hO e1 e2
    by_cases t1 : most < 1
    · have hS : Hid (perfS rows cols ls most = ([], false, 1)) := by show _ = _; unfold perfS; rw [if_pos h0'.out, if_pos (.inl t1)]
      have t1' : decide (most < 1) = true := by simpa using t1
      unfold PPf
      obtain ⟨S, hS2⟩ : ∃ S, S = perfS rows cols ls most := ⟨_, rfl⟩
      rw [← hS2] at hS ⊢
      clear hS2 t1
      go_enter Try.func18, Try.ntmps18
      go_wp2_with (go_at_call 28; (with_reducible refine hV'.out.mono ?_); rintro e w2 ⟨rfl, hb2⟩; have hO2 := Lib.hid (hO'.out.call hb2))
      go_ret3
      exact ⟨_, _, _, _, _, _, rfl, OL.nil _, hS, hO2.out.1⟩
    · have t1' : decide (most < 1) = false := by simpa using t1
      by_cases t2 : 200 < most
      · have hS : Hid (perfS rows cols ls most = ([], false, 1)) := by show _ = _; unfold perfS; rw [if_pos h0'.out, if_pos (.inr t2)]
        have t2' : decide (200 < most) = true := by simpa using t2
        unfold PPf
        obtain ⟨S, hS2⟩ : ∃ S, S = perfS rows cols ls most := ⟨_, rfl⟩
        rw [← hS2] at hS ⊢
        clear hS2 t1 t2
        go_enter Try.func18, Try.ntmps18
        go_wp2_with (go_at_call 28; (with_reducible refine hV'.out.mono ?_); rintro e w2 ⟨rfl, hb2⟩; have hO2 := Lib.hid (hO'.out.call hb2))
        go_ret3
        exact ⟨_, _, _, _, _, _, rfl, OL.nil _, hS, hO2.out.1⟩
      · have t2' : decide (200 < most) = false := by simpa using t2
        by_cases t3 : rows = cols
        · subst t3
          obtain ⟨mo, hmo⟩ : ∃ mo : Nat, most = (mo : Int) := ⟨most.toNat, by omega⟩
          subst hmo
          obtain ⟨R, hR⟩ : ∃ R : Nat, rows = (R : Int) := ⟨rows.toNat, e1'.out⟩
          subst hR
          have hnR : n = R := by have := hN.1; have := hI.2.2.1; simp at this; omega
          subst hnR
          have hI : Inc n n (nE ls) := by simpa using hI
          obtain ⟨out, hout⟩ : ∃ out, out = perf (nE ls) n n mo n [] (fun _ => false) [] := ⟨_, rfl⟩
          have hol : out.length ≤ mo + 1 := by rw [hout]; exact perf_len n [] _ [] (by simp)
          have hll : Hid (∀ l ∈ out, l.length ≤ 1000) := fun l hl => by
            rw [hout] at hl
            rcases perf_sound n [] _ [] l hl with h | ⟨s, h1, h2⟩
            · cases h
            · have := cmp_len n _ s h1; have := hI.1; rw [h2]; simp; omega
          have hout' := Lib.hid hout
          have hnn' : ((n : Int) != (n : Int)) = false := by simp
          have hI' := Lib.hid hI
          have hL' := Lib.hid hL
          have hN' := Lib.hid hN
          have hmo' := And.intro t1 t2
          clear hout hI hN hL t1 t2 e1' hnn
          go_enter Try.func18, Try.ntmps18
          have hR64 := hI'.out.1
          go_upto_region 8 with (go_at_call 28; (with_reducible refine hV'.out.mono ?_); rintro e w2 ⟨rfl, hb2⟩; have hO2 := Lib.hid (hO'.out.call hb2); obtain ⟨m0, m1, m2⟩ := cells3 hO2.out.b0)
          have hSS : (fun w' : World => w'.cell? ⟨w.heap.size, 0, none⟩ = some (.int .i64 (n : Int)) ∧ w'.cell? ⟨w.heap.size, 1, none⟩ = some (.int .i64 (n : Int)) ∧ w'.cell? ⟨w.heap.size, 2, none⟩ = some (.slice A n c)) w2.drew := ⟨m0, m1, m2⟩
          have hSW : ∀ wx, Below w2.heap.size w2 wx → (fun w' : World => w'.cell? ⟨w.heap.size, 0, none⟩ = some (.int .i64 (n : Int)) ∧ w'.cell? ⟨w.heap.size, 1, none⟩ = some (.int .i64 (n : Int)) ∧ w'.cell? ⟨w.heap.size, 2, none⟩ = some (.slice A n c)) wx := fun wx hb => by
            obtain ⟨q0, q1, q2⟩ := cells3 (hO2.out.call hb).b0
            exact ⟨q0, q1, q2⟩
          refine wp_region_K (S := (fun w' : World => w'.cell? ⟨w.heap.size, 0, none⟩ = some (.int .i64 (n : Int)) ∧ w'.cell? ⟨w.heap.size, 1, none⟩ = some (.int .i64 (n : Int)) ∧ w'.cell? ⟨w.heap.size, 2, none⟩ = some (.slice A n c))) (K := []) (by kernel_rfl) ?_
          refine AnyK.take (i := 0) (v := .agg #[.int .i64 (n : Int), .int .i64 (n : Int), .slice A n c]) rfl (by kernel_rfl) (by kernel_rfl) (by kernel_rfl) (by kernel_rfl) (by kernel_rfl) (by kernel_rfl) (fun _ _ _ h => h) (Or.inl ⟨by rfl, ?_⟩) hSS ?_
          · rintro w' ⟨a0, a1, a2⟩
            go_simp
          (try simp only [Act.put, List.setIfInBounds_toArray, List.set_cons_zero, List.set_cons_succ])
          refine AnyK.takeFree (i := 1) (v := .int .i64 (mo : Int)) rfl (by kernel_rfl) (by kernel_rfl) (by kernel_rfl) (by kernel_rfl) (fun _ _ _ h => h) (Or.inl ⟨by rfl, ?_⟩) hSS ?_
          · rintro w' -
            go_simp
          (try simp only [Act.put, List.setIfInBounds_toArray, List.set_cons_zero, List.set_cons_succ])
          refine AnyK.takeFree (i := 2) (v := .pointer (some ⟨w.heap.size, 1, none⟩)) rfl (by kernel_rfl) (by kernel_rfl) (by kernel_rfl) (by kernel_rfl) (fun _ _ _ h => h) (Or.inl ⟨by rfl, ?_⟩) hSS ?_
          · rintro w' -
            go_simp
          (try simp only [Act.put, List.setIfInBounds_toArray, List.set_cons_zero, List.set_cons_succ])
          refine AnyK.take (i := 3) (v := .int .i64 (n : Int)) rfl (by kernel_rfl) (by kernel_rfl) (by kernel_rfl) (by kernel_rfl) (by kernel_rfl) (by kernel_rfl) (fun _ _ _ h => h) (Or.inl ⟨by rfl, ?_⟩) hSS ?_
          · rintro w' ⟨a0, a1, a2⟩
            go_simp
          (try simp only [Act.put, List.setIfInBounds_toArray, List.set_cons_zero, List.set_cons_succ])
          refine AnyK.one (i := 4) (by kernel_rfl) rfl (fun K' hK => ?_)
          refine step_make_full (by rfl) (.tmp 28) (.tmp 28) 67 (by rfl) w2.heap.size 4 j0 (.bool false) 1 Try.underlying67 hj0 yz0 yz1 n (by kernel_rfl) (by kernel_rfl) (by rw [yz2]; omega) (by unfold maxLen; omega) (Nat.le_refl _) ?_
          intro w3 hown3 hg3
          go_simp
          have hr3 := RO.made hown3
          have hb3 : Below w2.heap.size w2 w3 := (Below.refl _ _).drew.grown hg3 (Nat.le_refl _) (by intro k hk; cases hk)
          refine hK.out _ _ (fun _ => hSW _ hb3) ?_
          clear hK
          (try simp only [Act.put, List.setIfInBounds_toArray, List.set_cons_zero, List.set_cons_succ])
          refine AnyK.one (i := 5) (by kernel_rfl) rfl (fun K' hK => ?_)
          go_simp
          refine hK.out _ _ (fun _ => hSW _ hb3) ?_
          clear hK
          (try simp only [Act.put, List.setIfInBounds_toArray, List.set_cons_zero, List.set_cons_succ])
          refine AnyK.one (i := 6) (by kernel_rfl) rfl (fun K' hK => ?_)
          go_simp
          have hb4 : Below w3.heap.size w3 (w3.alloc (.cells #[.int .i64 (n : Int), .int .i64 (n : Int), .slice A n c, .int .i64 (mo : Int), .slice none 0 0, .slice none 0 0, .slice (some ⟨w2.heap.size, 0, none⟩) n n] 74)) := (Below.refl _ _).alloc (Nat.le_refl _) _
          have hb24 := hb3.trans (hb4.mono hb3.size)
          refine hK.out _ _ (fun _ => hSW _ hb24) ?_
          clear hK
          (try simp only [Act.put, List.setIfInBounds_toArray, List.set_cons_zero, List.set_cons_succ])
          refine AnyK.one (i := 7) (by kernel_rfl) rfl (fun K' hK => ?_)
          go_simp
          refine hK.out _ _ (fun _ => hSW _ hb24) ?_
          clear hK
          (try simp only [Act.put, List.setIfInBounds_toArray, List.set_cons_zero, List.set_cons_succ])
          refine AnyK.done (by kernel_rfl) ?_ _
          obtain ⟨w4, hw4⟩ : ∃ w4, w4 = w3.alloc (.cells #[.int .i64 (n : Int), .int .i64 (n : Int), .slice A n c, .int .i64 (mo : Int), .slice none 0 0, .slice none 0 0, .slice (some ⟨w2.heap.size, 0, none⟩) n n] 74) := ⟨_, rfl⟩
          have hbX : Blk w4 w3.heap.size 74 #[.int .i64 (n : Int), .int .i64 (n : Int), .slice A n c, .int .i64 (mo : Int), .slice none 0 0, .slice none 0 0, .slice (some ⟨w2.heap.size, 0, none⟩) n n] := by rw [hw4]; exact Blk.new _ _ _
          have hw4s : w4.heap.size = w3.heap.size + 1 := by rw [hw4]; simp
          rw [← hw4] at hb4 hb24
          have hr3' : RO w3 w2.heap.size n (fun _ => false) := hr3
          have hr4 := hr3'.call hb4
          have hlo4 : Below w.heap.size w w4 := (hO2.out.call hb24).1
          obtain ⟨z, hz⟩ : ∃ z : LZ, z = ⟨w.heap.size, w3.heap.size, w2.heap.size, w4.heap.size, A, c, n, nE ls, mo⟩ := ⟨_, rfl⟩
          have hs2 : w.heap.size ≤ w2.heap.size := hO2.out.1.size
          have hs3 : w2.heap.size < w3.heap.size := hr3'.lt
          have hzf : z.Fine := by
            rw [hz]
            exact ⟨hI'.out, by show mo ≤ 200; omega, ⟨by show w.heap.size ≤ w3.heap.size; omega, by show w.heap.size ≤ w2.heap.size; omega⟩, by show w3.heap.size ≠ w2.heap.size; omega, ⟨by show w3.heap.size < w4.heap.size; omega, by show w2.heap.size < w4.heap.size; omega⟩⟩
          have hLX : LX z [] (fun _ => false) [] (.slice none 0 0) (.slice none 0 0) [] w4 := by
            rw [hz]
            exact ⟨hbX, hN'.out.below hlo4, RowI.nil _ _, hr4, World.ownsRow_nil _ _ _ _, (fun j l v hj => (by simp at hj)), (fun v hv => (by cases hv)), Nat.le_refl _, hlo4.size⟩
          have hgx : z.gX = w3.heap.size ∧ z.R = n := by rw [hz]; exact ⟨rfl, rfl⟩
          have hgt : Hid (gateF z n [] (fun _ => false) [] = out) := by
            have h := root_full (z := z) hzf.inc
            rw [hgx.2] at h
            show _ = _
            rw [h, hout'.out, hz]
          have hC0 := ref_from z hzf n 0 [] (fun _ => false) (.slice none 0 0) (.slice none 0 0) [] [] w4 (by rw [hgx.2]; omega) rfl (by simp) hLX
          rw [hgt.out, hgx.1, show ((0 : Nat) : Int) = 0 from rfl] at hC0
          have hC := Lib.hid hC0
          have hgx1 := Lib.hid hgx.1
          have hlo4' := Lib.hid hlo4
          have hzB : Hid (z.B = w.heap.size) := by show _ = _; rw [hz]
          rw [← hw4]
          clear hC0 hgx hgt hLX hzf hs2 hs3 hz hlo4 hr4 hr3' hr3 hb4 hb24 hw4s hbX hw4 hb3 hown3 hg3 hSS hSW m0 m1 m2
          go_upto_region 10 with (go_at_call 49; (with_reducible refine hC.out.mono ?_); rintro e w5 ⟨rfl, vw5, vo5, hs5, hX5, hb5⟩)
          obtain ⟨Ao, co, hvo, hcap, hne, hOL⟩ := hX5.ol (by omega) hll.out
          have c5 : w5.cell? ⟨z.gX, 5, none⟩ = some vo5 := hX5.bX.cell 5
          rw [hvo, hgx1.out] at c5
          have hb4 : Hid (Below w.heap.size w w5) := by
            rw [hzB.out] at hb5
            exact hlo4'.out.trans hb5
          have hOL' := Lib.hid hOL
          have hout2 : Hid (perf (nE ls) n n mo n [] (fun _ => false) [] = out) := hout'.out.symm
          clear hX5 hvo hOL hb5 hC
          by_cases hlt : mo < out.length
          · obtain ⟨g, rfl⟩ := hne (by omega)
            have hlt' : decide (mo < out.length) = true := by simpa using hlt
            have hS : Hid (perfS (n : Int) (n : Int) ls (mo : Int) = (out.take mo, true, 0)) := by
              show _ = _
              unfold perfS
              rw [if_pos h0'.out, if_neg (by omega), if_pos rfl]
              simp only [Int.toNat_natCast]
              rw [hout2.out, if_pos hlt]
            have hmc : (mo : Int) ≤ (co : Int) := by omega
            have hmc2 : mo ≤ co := by omega
            have hres := Lib.hid (hOL'.out.take (m := mo) (by omega) co)
            clear hlt hne
            go_wp2_with fail
            go_ret3
            exact ⟨_, _, _, _, _, _, rfl, hres.out, hS, hb4.out⟩
          · have hlt' : decide (mo < out.length) = false := by simpa using hlt
            have hS : Hid (perfS (n : Int) (n : Int) ls (mo : Int) = (out, false, 0)) := by
              show _ = _
              unfold perfS
              rw [if_pos h0'.out, if_neg (by omega), if_pos rfl]
              simp only [Int.toNat_natCast]
              rw [hout2.out, if_neg hlt]
            clear hlt hne
            go_wp2_with fail
            go_ret3
            exact ⟨_, _, _, _, _, _, rfl, hOL'.out, hS, hb4.out⟩
        · have hS : Hid (perfS rows cols ls most = ([], false, 8)) := by show _ = _; unfold perfS; rw [if_pos h0'.out, if_neg (by omega), if_neg t3]
          have t3' : (rows != cols) = true := by simpa using t3
          unfold PPf
          obtain ⟨S, hS2⟩ : ∃ S, S = perfS rows cols ls most := ⟨_, rfl⟩
          rw [← hS2] at hS ⊢
          clear hS2 t1 t2 t3
          go_enter Try.func18, Try.ntmps18
          go_wp2_with (go_at_call 28; (with_reducible refine hV'.out.mono ?_); rintro e w2 ⟨rfl, hb2⟩; have hO2 := Lib.hid (hO'.out.call hb2); obtain ⟨m0, m1, m2⟩ := cells3 hO2.out.b0)
          go_ret3
          exact ⟨_, _, _, _, _, _, rfl, OL.nil _, hS, hO2.out.1⟩
  · rw [h1] at hV
    have hV' := Lib.hid hV
    have hS : Hid (perfS rows cols ls most = ([], false, 1)) := if_neg (by rw [h1]; omega)
    clear hV h1
    unfold PPf
    obtain ⟨S, hS2⟩ : ∃ S, S = perfS rows cols ls most := ⟨_, rfl⟩
    rw [← hS2] at hS ⊢
    clear hS2 hO
    go_enter Try.func18, Try.ntmps18
    go_wp2_with (go_at_call 28; (with_reducible refine hV'.out.mono ?_); rintro e w2 ⟨rfl, hb2⟩; have hO2 := Lib.hid (hO'.out.call hb2))
    go_ret3
    exact ⟨_, _, _, _, _, _, rfl, OL.nil _, hS, hO2.out.1⟩

end Go.Proofs.Ytjbhnfejpgjghaa

/- law13.MatchParts answers true. -/
namespace Go.Proofs.Ytjbhnfejpgjghaa
open Go.RowKit
set_option linter.unusedSimpArgs false
set_option linter.unusedVariables false

theorem OL.cell {w : World} {A : Option Addr} {n c : Nat} {out : List (List Int)} (h : OL w A n c out) {j : Nat} (hj : j < n) : ∃ g o l A' n' c', A = some ⟨g, o, none⟩ ∧ g < w.heap.size ∧ out[j]? = some l ∧ w.cell? ⟨g, o + j, none⟩ = some (.slice A' n' c') ∧ IL w A' n' c' l := by
  obtain ⟨h1, h2, h4⟩ := h
  rcases h4 with h4 | ⟨g, o, rfl, hg, hc⟩
  · omega
  · have e : out[j]? = some out[j] := List.getElem?_eq_getElem (by omega)
    obtain ⟨A', n', c', e1, e2⟩ := hc j _ e
    exact ⟨g, o, _, A', n', c', rfl, hg, e, e1, e2⟩

set_option maxRecDepth 100000 in
set_option maxHeartbeats 1000000 in
theorem law13_sameAll (A B : Option Addr) (n m c d : Nat) (l : List (List Int)) (w : World) (hA : OL w A n c l) (hB : OL w B m d l) :
    Calls Try.prog 19 #[.slice A n c, .slice B m d] w fun e w' => e = .returned (.bool true) ∧ Below w.heap.size w w' := by
  obtain rfl : n = m := hA.1.symm.trans hB.1
  have hn : n ≤ 1000000 := hA.2.1
  go_enter Try.func19, Try.ntmps19
  go_wp2_with fail
  go_loopw [13] (fun v13 wr => ∃ j : Nat, j ≤ n ∧ v13 = .int .i64 j ∧ Hid (Below w.heap.size w wr)) (fun j _ => n - (intOf j).toNat)
  case atStart => exact ⟨0, by omega, rfl, Below.refl _ _⟩
  case round =>
    obtain ⟨j, hj, rfl, hb⟩ := hrel
    by_cases hlt : j < n
    · obtain ⟨g1, o1, x, A1, n1, c1, hA1, hg1, hx, hc1, hi1⟩ := hA.cell hlt
      obtain ⟨g2, o2, y, A2, n2, c2, hA2, hg2, hy, hc2, hi2⟩ := hB.cell hlt
      subst hA1 hA2
      obtain rfl : x = y := by rw [hx] at hy; injection hy
      have hi1 := Lib.hid (hi1.below hb.out)
      have hi2 := Lib.hid (hi2.below hb.out)
      have hc1 := (hb.out.cell (p := ⟨g1, o1 + j, none⟩) hg1).trans hc1
      have hc2 := (hb.out.cell (p := ⟨g2, o2 + j, none⟩) hg2).trans hc2
      clear hy hx
      go_upto_region 6 with fail
      have hS : wr.drew.cell? ⟨g1, o1 + j, none⟩ = some (.slice A1 n1 c1) ∧ wr.drew.cell? ⟨g2, o2 + j, none⟩ = some (.slice A2 n2 c2) := ⟨hc1, hc2⟩
      have hbw := hb.out.size
      go_region_held3 (fun w' => w'.cell? ⟨g1, o1 + j, none⟩ = some (.slice A1 n1 c1) ∧ w'.cell? ⟨g2, o2 + j, none⟩ = some (.slice A2 n2 c2))
        (first | (with_reducible exact hS))
        (first
          | (go_at_call 11; refine (law13_same A1 A2 n1 n2 c1 c2 x _ (hi1.out.below ((Below.refl _ _).drew)) (hi2.out.below ((Below.refl _ _).drew))).mono ?_; rintro e w8 ⟨rfl, hb8⟩; have hb8' : Below wr.heap.size wr w8 := (Below.refl _ _).drew.trans hb8; clear hS; have hS : w8.cell? ⟨g1, o1 + j, none⟩ = some (.slice A1 n1 c1) ∧ w8.cell? ⟨g2, o2 + j, none⟩ = some (.slice A2 n2 c2) := ⟨(hb8'.cell (p := ⟨g1, o1 + j, none⟩) (by show g1 < _; omega)).trans hc1, (hb8'.cell (p := ⟨g2, o2 + j, none⟩) (by show g2 < _; omega)).trans hc2⟩))
      clear hS
      have hlo8 : Hid (Below w.heap.size w w8) := hb.out.trans (hb8'.mono hbw)
      go_wp2_with fail
      go_roundw
      case rel => exact ⟨j + 1, by omega, by go_num, hlo8⟩
      case measure => simp [intOf]; omega
    · have : n = j := by omega
      subst this
      go_wp2_with fail
      go_ret
      exact ⟨rfl, hb.out⟩

theorem trip_eq2 {α β γ : Type} {S : α × β × γ} {a a' : α} {b b' : β} {c c' : γ} (h : Hid (S = (a, b, c))) (h' : Hid (S = (a', b', c'))) : a = a' ∧ b = b' ∧ c = c' := by
  have h : S = (a, b, c) := h
  have h' : S = (a', b', c') := h'
  rw [h] at h'
  injection h' with p q
  injection q with q r
  exact ⟨p, q, r⟩

set_option maxRecDepth 100000 in
set_option maxHeartbeats 4000000 in
theorem law13_MatchParts (rows cols : Int) (A : Option Addr) (n c : Nat) (ls : List (List Int)) (most : Int) (w : World) (hL : L2 w A n c ls) (hr : In64 rows) (hc : In64 cols) (hm : In64 most) :
    Calls Try.prog 6 #[.agg #[.int .i64 rows, .int .i64 cols, .slice A n c], .int .i64 most] w fun e w' => e = .returned (.bool true) ∧ Below w.heap.size w w' := by
  have hO := Own.one w 33 #[.int .i64 rows, .int .i64 cols, .slice A n c]
  obtain ⟨m0, m1, m2⟩ := cells3 hO.b0
  have hO1 := Lib.hid hO
  clear hO
  have hL' : Hid (∀ wx, Own w [(33, #[.int .i64 rows, .int .i64 cols, .slice A n c])] wx → L2 wx A n c ls) := fun wx h => hL.below h.1 (Nat.le_refl _)
  go_enter Try.func6, Try.ntmps6
  go_upto_region 3 with (first
    | (go_at_call 16; refine (m_parts rows cols A n c ls _ (hL'.out _ hO1.out) hr hc).mono ?_; rintro e w9 ⟨A3, n3, c3, zr, A4, n4, c4, cs, ce, rfl, hil3, hil4, hs3, hb9⟩; have hO9 := Lib.hid (hO1.out.call hb9); obtain ⟨m0, m1, m2⟩ := cells3 hO9.out.b0)
    | (go_at_call 17; refine (ref_parts rows cols A n c ls _ (hL'.out _ hO9.out) hr hc).mono ?_; rintro e w10 ⟨A5, n5, c5, zr', A6, n6, c6, cs', ce', rfl, hil5, hil6, hs4, hb10⟩; obtain ⟨rfl, rfl, rfl⟩ := trip_eq2 hs3 hs4; have hO10 := Lib.hid (hO9.out.call hb10)))
  have hA3 := Lib.hid (hil3.below hb10)
  have hA4 := Lib.hid (hil4.below hb10)
  have hA5 := Lib.hid hil5
  have hA6 := Lib.hid hil6
  have q4 : (ce != ce) = false := by simp
  have mk1 : True := trivial
  clear m0 m1 m2 hs3 hs4 hil3 hil4 hil5 hil6 hb9 hb10 hO1 hO9
  obtain ⟨m0, m1, m2⟩ := cells3 hO10.out.b0
  go_upto_region 5 with (first
    | (clear mk1; go_at_call 11; refine (law13_same A3 A5 n3 n5 c3 c5 zr _ hA3.out hA5.out).mono ?_; rintro e w11 ⟨rfl, hb11⟩; have hA4 := Lib.hid (hA4.out.below hb11); have hA6 := Lib.hid (hA6.out.below hb11); have hO11 := Lib.hid (hO10.out.call hb11))
    | (go_at_call 11; refine (law13_same A4 A6 n4 n6 c4 c6 cs _ hA4.out hA6.out).mono ?_; rintro e w12 ⟨rfl, hb12⟩; have hO12 := Lib.hid (hO11.out.call hb12)))
  clear m0 m1 m2 hA3 hA4 hA5 hA6 hb11 hb12 hO10 hO11 q4
  obtain ⟨m0, m1, m2⟩ := cells3 hO12.out.b0
  go_upto_region 7 with (first
    | (go_at_call 15; refine (m_perfect rows cols A n c ls most _ (hL'.out _ hO12.out) hr hc hm).mono ?_; rintro e w13 ⟨A7, n7, c7, ss, si, se, rfl, hil7, hs7, hb13⟩; have hO13 := Lib.hid (hO12.out.call hb13); obtain ⟨m0, m1, m2⟩ := cells3 hO13.out.b0)
    | (go_at_call 18; refine (ref_perfect rows cols A n c ls most _ (hL'.out _ hO13.out) hr hc hm).mono ?_; rintro e w14 ⟨A8, n8, c8, ss', si', se', rfl, hil8, hs8, hb14⟩; obtain ⟨rfl, rfl, rfl⟩ := trip_eq2 hs7 hs8; have hO14 := Lib.hid (hO13.out.call hb14)))
  have hA7 := Lib.hid (hil7.below hb14)
  have hA8 := Lib.hid hil8
  have q5 : (se == se) = true := by simp
  have q6 : (si == si) = true := by simp
  clear m0 m1 m2 hs7 hs8 hil7 hil8 hb13 hb14 hO12 hO13
  go_wp2_with (first
    | (go_at_call 19; refine (law13_sameAll A7 A8 n7 n8 c7 c8 ss _ hA7.out hA8.out).mono ?_; rintro e w15 ⟨rfl, hb15⟩; have hO15 := Lib.hid (hO14.out.call hb15))
    | (go_at_call 14; refine (law13_known _).mono ?_; rintro e w16 ⟨rfl, hb16⟩; have hO16 := Lib.hid (hO15.out.call hb16)))
  go_ret
  exact ⟨rfl, hO16.out.1⟩

end Go.Proofs.Ytjbhnfejpgjghaa
