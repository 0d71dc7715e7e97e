/- The program's Perfect. -/
import Derived.Laws.EntriesVeiled
import Derived.Test.YtjbhnfejpgjghaaPe
import Derived.Test.YtjbhnfejpgjghaaMm
namespace Go.Proofs.Ytjbhnfejpgjghaa
open Go.RowKit
set_option linter.unusedSimpArgs false
set_option linter.unusedVariables false

/-- a slice that reads as these lists -/
def OL (w : World) (A : Option Addr) (n c : Nat) (out : List (List Int)) : Prop :=
  out.length = n ∧ n ≤ 1000000 ∧ (n = 0 ∨ ∃ g o, A = some ⟨g, o, none⟩ ∧ g < w.heap.size ∧ ∀ (j : Nat) (l : List Int), out[j]? = some l → ∃ A' n' c', w.cell? ⟨g, o + j, none⟩ = some (.slice A' n' c') ∧ IL w A' n' c' l)
theorem OL.nil (w : World) : OL w none 0 0 [] := ⟨rfl, by omega, .inl rfl⟩
theorem OL.below {w w' : World} {A n c out} (h : OL w A n c out) (hb : Below w.heap.size w w') : OL w' A n c out := by
  obtain ⟨h1, h2, h4⟩ := h
  refine ⟨h1, h2, ?_⟩
  rcases h4 with h4 | ⟨g, o, rfl, hg, hc⟩
  · exact .inl h4
  · refine .inr ⟨g, o, rfl, Nat.lt_of_lt_of_le hg hb.size, fun j l hj => ?_⟩
    obtain ⟨A', n', c', e1, e2⟩ := hc j l hj
    exact ⟨A', n', c', (hb.cell (p := ⟨g, o + j, none⟩) hg).trans e1, e2.below hb⟩
theorem OL.take {w : World} {A n c out} (h : OL w A n c out) {m : Nat} (hm : m ≤ n) (c' : Nat) : OL w A m c' (out.take m) := by
  obtain ⟨h1, h2, h4⟩ := h
  refine ⟨by rw [List.length_take]; omega, by omega, ?_⟩
  rcases h4 with h4 | ⟨g, o, rfl, hg, hc⟩
  · exact .inl (by omega)
  · refine .inr ⟨g, o, rfl, hg, fun j l hj => ?_⟩
    have hjm := (List.getElem?_eq_some_iff.1 hj).1
    rw [List.length_take] at hjm
    rw [List.getElem?_take_of_lt (by omega)] at hj
    exact hc j l hj
theorem PS.ol {z : PF} {vo : Value} {hs : List Value} {out : List (List Int)} {w : World} (h : PS z vo hs out w) (hn : out.length ≤ 1000) (hl : ∀ l ∈ out, l.length ≤ 1000) : ∃ A c, vo = .slice A out.length c ∧ out.length ≤ c ∧ (0 < out.length → ∃ g, A = some ⟨g, 0, none⟩) ∧ OL w A out.length c out := by
  have h0 := h.row
  rcases h.row.2 with ⟨h1, h2⟩ | ⟨g, cap, cur, rfl, h3, h4, h5, h6⟩
  · have : out = [] := List.eq_nil_of_length_eq_zero h2
    subst this
    exact ⟨none, 0, h1, Nat.le_refl _, fun h => absurd h (by simp), OL.nil _⟩
  · refine ⟨_, _, rfl, h5, fun _ => ⟨g, rfl⟩, rfl, by omega, .inr ⟨g, 0, rfl, (h.voAt (g := g) rfl).2, fun j l hj => ?_⟩⟩
    have hjl := (List.getElem?_eq_some_iff.1 hj).1
    have hlen := h.row.1
    have hv : hs[j]? = some hs[j] := List.getElem?_eq_getElem (by omega)
    obtain ⟨A', n', c', e1, e2⟩ := (h.el j l _ hj hv).il (by have := hl l (List.mem_of_getElem? hj); omega)
    refine ⟨A', n', c', ?_, e2⟩
    have h7 := World.ownsRow.cells h0 (g := g) rfl j _ hv
    rw [show (⟨g, 0, none⟩ : Addr).add j = ⟨g, 0 + j, none⟩ from by unfold Addr.add; split <;> simp_all] at h7
    rw [h7, e1]

/-- what is listed -/
def perfS (rows cols : Int) (ls : List (List Int)) (most : Int) : List (List Int) × Bool × Int :=
  if vErr rows cols ls = 0 then (if most < 1 ∨ 200 < most then ([], false, 1) else if rows = cols then
    (if most.toNat < (perf (nE ls) rows.toNat rows.toNat most.toNat rows.toNat [] (fun _ => false) []).length then ((perf (nE ls) rows.toNat rows.toNat most.toNat rows.toNat [] (fun _ => false) []).take most.toNat, true, 0)
     else (perf (nE ls) rows.toNat rows.toNat most.toNat rows.toNat [] (fun _ => false) [], false, 0)) else ([], false, 8)) else ([], false, 1)

def PPf (rows cols : Int) (ls : List (List Int)) (most : Int) (w : World) (e : Ending) (w' : World) : Prop :=
  ∃ (A : Option Addr) (n c : Nat) (out : List (List Int)) (more : Bool) (er : Int), e = .returned (.tuple #[.slice A n c, .bool more, .int .i64 er]) ∧ OL w' A n c out ∧ Hid (perfS rows cols ls most = (out, more, er)) ∧ Below w.heap.size w w'

theorem cmp_len {E : List (List Nat)} {R : Nat} : ∀ (m : Nat) (used : Nat → Bool) (s : List Int), Cmp E R m used s → s.length = m := by
  intro m
  induction m with
  | zero => intro used s h; rw [show s = [] from h]; rfl
  | succ m ih => intro used s h; obtain ⟨k, t, hs, -, -, hc⟩ := h; rw [hs, List.length_cons, ih _ _ hc]

set_option maxRecDepth 100000 in
set_option maxHeartbeats 1000000 in
theorem m_perfect (rows cols : Int) (A : Option Addr) (n c : Nat) (ls : List (List Int)) (most : Int) (w : World) (hL : L2 w A n c ls) (hr : In64 rows) (hc : In64 cols) (hm : In64 most) :
    Calls Try.prog 15 #[.agg #[.int .i64 rows, .int .i64 cols, .slice A n c], .int .i64 most] w (PPf rows cols ls most w) := by
  have hu := Try.underlying55
  have hmf : ∀ (fn : Fn) (first cap : Array Value) (w : World), (Instr.makeFunc fn first cap).run Try.prog w = .ok (.func fn first cap) w := fun _ _ _ _ => rfl
  have hO := Own.two w 33 3 #[.int .i64 rows, .int .i64 cols, .slice A n c] #[.int .i64 most]
  have hV := m_validate rows cols A n c ls _ (hL.below hO.1 (Nat.le_refl _)) hr hc
  obtain ⟨m0, m1, m2⟩ := cells3 hO.b0
  have cM := hO.b1.cell 0
  have hO' := Lib.hid hO
  rcases vErr_two rows cols ls with h0 | h1
  · rw [h0] at hV
    have hV' := Lib.hid hV
    obtain ⟨e1, e2, hI, hnn⟩ := inc_of h0
    have hN := n2_of hL hnn
    have h0' := Lib.hid h0
    have e1' := Lib.hid e1
    clear hV h0 hO e1 e2
    by_cases t1 : most < 1
    · have hS : Hid (perfS rows cols ls most = ([], false, 1)) := by show _ = _; unfold perfS; rw [if_pos h0'.out, if_pos (.inl t1)]
      have t1' : decide (most < 1) = true := by simpa using t1
      unfold PPf
      obtain ⟨S, hS2⟩ : ∃ S, S = perfS rows cols ls most := ⟨_, rfl⟩
      rw [← hS2] at hS ⊢
      clear hS2 t1
      go_enter Try.func15, Try.ntmps15
      go_wp2_with (go_at_call 27; (with_reducible refine hV'.out.mono ?_); rintro e w2 ⟨rfl, hb2⟩; have hO2 := Lib.hid (hO'.out.call hb2); have cM2 := hO2.out.b1.cell 0)
      go_ret3
      exact ⟨_, _, _, _, _, _, rfl, OL.nil _, hS, hO2.out.1⟩
    · have t1' : decide (most < 1) = false := by simpa using t1
      by_cases t2 : 200 < most
      · have hS : Hid (perfS rows cols ls most = ([], false, 1)) := by show _ = _; unfold perfS; rw [if_pos h0'.out, if_pos (.inr t2)]
        have t2' : decide (200 < most) = true := by simpa using t2
        unfold PPf
        obtain ⟨S, hS2⟩ : ∃ S, S = perfS rows cols ls most := ⟨_, rfl⟩
        rw [← hS2] at hS ⊢
        clear hS2 t1 t2
        go_enter Try.func15, Try.ntmps15
        go_wp2_with (go_at_call 27; (with_reducible refine hV'.out.mono ?_); rintro e w2 ⟨rfl, hb2⟩; have hO2 := Lib.hid (hO'.out.call hb2); have cM2 := hO2.out.b1.cell 0)
        go_ret3
        exact ⟨_, _, _, _, _, _, rfl, OL.nil _, hS, hO2.out.1⟩
      · have t2' : decide (200 < most) = false := by simpa using t2
        by_cases t3 : rows = cols
        · subst t3
          obtain ⟨mo, hmo⟩ : ∃ mo : Nat, most = (mo : Int) := ⟨most.toNat, by omega⟩
          subst hmo
          obtain ⟨R, hR⟩ : ∃ R : Nat, rows = (R : Int) := ⟨rows.toNat, e1'.out⟩
          subst hR
          have hnR : n = R := by have := hN.1; have := hI.2.2.1; simp at this; omega
          subst hnR
          have hI : Inc n n (nE ls) := by simpa using hI
          obtain ⟨out, hout⟩ : ∃ out, out = perf (nE ls) n n mo n [] (fun _ => false) [] := ⟨_, rfl⟩
          have hol : out.length ≤ mo + 1 := by rw [hout]; exact perf_len n [] _ [] (by simp)
          have hll : Hid (∀ l ∈ out, l.length ≤ 1000) := fun l hl => by
            rw [hout] at hl
            rcases perf_sound n [] _ [] l hl with h | ⟨s, h1, h2⟩
            · cases h
            · have := cmp_len n _ s h1; have := hI.1; rw [h2]; simp; omega
          have hout' := Lib.hid hout
          have hnn' : ((n : Int) != (n : Int)) = false := by simp
          have hI' := Lib.hid hI
          have hL' := Lib.hid hL
          have hN' := Lib.hid hN
          have hmo' := And.intro t1 t2
          clear hout hI hN hL t1 t2 e1' hnn
          go_enter Try.func15, Try.ntmps15
          go_upto_region 11 with (go_at_call 27; (with_reducible refine hV'.out.mono ?_); rintro e w2 ⟨rfl, hb2⟩; have hO2 := Lib.hid (hO'.out.call hb2); have cM2 := hO2.out.b1.cell 0; obtain ⟨m0, m1, m2⟩ := cells3 hO2.out.b0)
          obtain ⟨z, hz⟩ : ∃ z : PF, z = ⟨w.heap.size, w2.heap.size, w.heap.size + 1, w.heap.size, w2.heap.size + 1, w2.heap.size + 2, A, c, n, nE ls, mo⟩ := ⟨_, rfl⟩
          have hs2 : w.heap.size + 2 ≤ w2.heap.size := hO2.out.2.1
          have hzf : z.Fine := by
            rw [hz]
            exact ⟨hI'.out, by show mo ≤ 200; omega, by show w.heap.size ≤ w2.heap.size; omega, ⟨by show w2.heap.size ≠ w.heap.size + 1; omega, by show w2.heap.size ≠ w.heap.size; omega, by show w2.heap.size ≠ w2.heap.size + 1; omega⟩, ⟨by show w2.heap.size < w2.heap.size + 2; omega, by show w.heap.size + 1 < w2.heap.size + 2; omega, by show w.heap.size < w2.heap.size + 2; omega, by show w2.heap.size + 1 < w2.heap.size + 2; omega⟩⟩
          have hT := Own.two w2 22 59 #[.slice none 0 0] #[.func (.func 37) #[] #[.pointer (some ⟨w2.heap.size, 0, none⟩), .pointer (some ⟨w.heap.size + 1, 0, none⟩), .pointer (some ⟨w.heap.size, 0, none⟩), .pointer (some ⟨w2.heap.size + 1, 0, none⟩)]]
          obtain ⟨w3, hw3⟩ : ∃ w3, w3 = ((w2.alloc (.cells #[.slice none 0 0] 22)).alloc (.cells #[.func (.func 37) #[] #[.pointer (some ⟨w2.heap.size, 0, none⟩), .pointer (some ⟨w.heap.size + 1, 0, none⟩), .pointer (some ⟨w.heap.size, 0, none⟩), .pointer (some ⟨w2.heap.size + 1, 0, none⟩)]] 59)) := ⟨_, rfl⟩
          rw [← hw3] at hT
          have hO3 := hO2.out.call hT.1
          have hPS : PS z (.slice none 0 0) [] [] w3 := by
            rw [hz]
            exact ⟨hT.b0, hO3.b1, hO3.b0, hT.b1, hN'.out.below hO3.1, World.ownsRow_nil _ _ _ _, fun j l v hj => by simp at hj, by show w2.heap.size + 2 ≤ _; exact hT.2.1⟩
          have hC : Calls Try.prog 37 #[.slice none 0 0, .agg #[.int .u64 0, .int .u64 0], .pointer (some ⟨w2.heap.size, 0, none⟩), .pointer (some ⟨w.heap.size + 1, 0, none⟩), .pointer (some ⟨w.heap.size, 0, none⟩), .pointer (some ⟨w2.heap.size + 1, 0, none⟩)] w3 (PPo z (.slice none 0 0) (.slice none 0 0) [] [] (perf z.E z.R z.R z.most n [] (fun _ => false) []) w3) := by
            have h := perfect_1 z hzf n 0 [] (fun _ => false) 0 0 (.slice none 0 0) (.slice none 0 0) [] [] w3 (by rw [hz]; show 0 + n = n; omega) rfl (by omega) (fun k _ => by simp) (by simp) hPS (RowI.nil _ _) (by simp)
            rw [hz] at h ⊢
            exact h
          have hC' := Lib.hid hC
          have hb3 := Lib.hid hO3.1
          have hpo : Hid (perf z.E z.R z.R z.most n [] (fun _ => false) [] = out) := by show _ = _; rw [hz, hout'.out]
          have hzm : z.most = mo ∧ z.gOut = w2.heap.size ∧ z.gMost = w.heap.size + 1 := by rw [hz]; exact ⟨rfl, rfl, rfl⟩
          have hzm' := Lib.hid hzm
          have hs2' := Lib.hid hs2
          clear hC hPS hO3 hT hz hzm hs2
          have hw3s : w3.heap.size = w2.heap.size + 2 := by rw [hw3]; simp
          have hw3s' := Lib.hid hw3s
          go_upto_region 12 with (go_at_call 37; rw [← hw3]; (with_reducible refine hC'.out.mono ?_); rintro e w4 ⟨rfl, vo, hs4, hP4, -, hF4, -, -⟩)
          rw [hpo.out] at hP4
          obtain ⟨hz1, hz2, hz3⟩ := hzm'.out
          have cO := hP4.bOut.cell 0
          have cMo := hP4.bMost.cell 0
          rw [hz1, hz3] at cMo
          rw [hz2] at cO
          have hb4 : Hid (Below w.heap.size w w4) := hb3.out.trans (hF4.below (by have := hw3s'.out; have := hs2'.out; omega) (by have := hs2'.out; simp [obs, Value.ownBlock]; omega))
          obtain ⟨Ao, co, hvo, hcap, hne, hOL⟩ := hP4.ol (by omega) hll.out
          rw [hvo] at cO
          have hOL' := Lib.hid hOL
          have hout2 : Hid (perf (nE ls) n n mo n [] (fun _ => false) [] = out) := hout'.out.symm
          clear hP4 hF4 hvo hOL hz1 hz2 hz3 hw3s hw3 hpo hzf
          by_cases hlt : mo < out.length
          · obtain ⟨g, rfl⟩ := hne (by omega)
            have hlt' : decide (mo < out.length) = true := by simpa using hlt
            have hS : Hid (perfS (n : Int) (n : Int) ls (mo : Int) = (out.take mo, true, 0)) := by
              show _ = _
              unfold perfS
              rw [if_pos h0'.out, if_neg (by omega), if_pos rfl]
              simp only [Int.toNat_natCast]
              rw [hout2.out, if_pos hlt]
            have hmc : (mo : Int) ≤ (co : Int) := by omega
            have hmc2 : mo ≤ co := by omega
            have hres := Lib.hid (hOL'.out.take (m := mo) (by omega) co)
            clear hlt hne
            go_wp2_with fail
            go_ret3
            exact ⟨_, _, _, _, _, _, rfl, hres.out, hS, hb4.out⟩
          · have hlt' : decide (mo < out.length) = false := by simpa using hlt
            have hS : Hid (perfS (n : Int) (n : Int) ls (mo : Int) = (out, false, 0)) := by
              show _ = _
              unfold perfS
              rw [if_pos h0'.out, if_neg (by omega), if_pos rfl]
              simp only [Int.toNat_natCast]
              rw [hout2.out, if_neg hlt]
            clear hlt hne
            go_wp2_with fail
            go_ret3
            exact ⟨_, _, _, _, _, _, rfl, hOL'.out, hS, hb4.out⟩
        · have hS : Hid (perfS rows cols ls most = ([], false, 8)) := by show _ = _; unfold perfS; rw [if_pos h0'.out, if_neg (by omega), if_neg t3]
          have t3' : (rows != cols) = true := by simpa using t3
          unfold PPf
          obtain ⟨S, hS2⟩ : ∃ S, S = perfS rows cols ls most := ⟨_, rfl⟩
          rw [← hS2] at hS ⊢
          clear hS2 t1 t2 t3
          go_enter Try.func15, Try.ntmps15
          go_wp2_with (go_at_call 27; (with_reducible refine hV'.out.mono ?_); rintro e w2 ⟨rfl, hb2⟩; have hO2 := Lib.hid (hO'.out.call hb2); have cM2 := hO2.out.b1.cell 0; obtain ⟨m0, m1, m2⟩ := cells3 hO2.out.b0)
          go_ret3
          exact ⟨_, _, _, _, _, _, rfl, OL.nil _, hS, hO2.out.1⟩
  · rw [h1] at hV
    have hV' := Lib.hid hV
    have hS : Hid (perfS rows cols ls most = ([], false, 1)) := if_neg (by rw [h1]; omega)
    clear hV h1
    unfold PPf
    obtain ⟨S, hS2⟩ : ∃ S, S = perfS rows cols ls most := ⟨_, rfl⟩
    rw [← hS2] at hS ⊢
    clear hS2 hO
    go_enter Try.func15, Try.ntmps15
    go_wp2_with (go_at_call 27; (with_reducible refine hV'.out.mono ?_); rintro e w2 ⟨rfl, hb2⟩; have hO2 := Lib.hid (hO'.out.call hb2))
    go_ret3
    exact ⟨_, _, _, _, _, _, rfl, OL.nil _, hS, hO2.out.1⟩

end Go.Proofs.Ytjbhnfejpgjghaa
