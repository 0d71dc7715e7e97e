/- The reference's Parts: the walk; both parts are one. -/
import Derived.Test.YtjbhnfejpgjghaaTc
import Derived.Test.YtjbhnfejpgjghaaSn
namespace Go.Proofs.Ytjbhnfejpgjghaa
open Go.RowKit
set_option linter.unusedSimpArgs false
set_option linter.unusedVariables false

/-- a part's number -/
def pnum (f g : Nat → Bool) : Nat → Int := fun i => if f i = true then 0 else if g i = true then 2 else 1
def PPn (w : World) (N : Nat) (h : Nat → Int) (e : Ending) (w' : World) : Prop := ∃ gO : Nat, w.heap.size ≤ gO ∧ e = .returned (.slice (some ⟨gO, 0, none⟩) N N) ∧ RF w' gO N h ∧ Below w.heap.size w w'

set_option maxRecDepth 100000 in
set_option maxHeartbeats 1000000 in
theorem ref_parts0 (gF gG N : Nat) (hN : N ≤ 64) (f g : Nat → Bool) (w : World) (hf : RO w gF N f) (hg : RO w gG N g) :
    Calls Try.prog 48 #[.slice (some ⟨gF, 0, none⟩) N N, .slice (some ⟨gG, 0, none⟩) N N] w (PPn w N (pnum f g)) := by
  obtain ⟨i0, hi0, hz0, hz1, hz2⟩ := m_info
  have hf0 := Lib.hid hf
  have hg0 := Lib.hid hg
  go_enter Try.func48, Try.ntmps48
  go_upto_region 2 with (at_make; refine wpList_make_full _ rfl _ _ 23 rfl w.heap.size 3 i0 (.int .i64 0) 1 Try.underlying23 hi0 hz0 hz1 .i64 .i64 _ _ N rfl rfl (by rfl) (by rfl) (by rw [hz2]; omega) (by simp [maxLen]; omega) (Nat.le_refl _) ?_; intro w2 hown2 hg2)
  have hb2 : Below w.heap.size w w2 := (Below.refl _ _).grown hg2 (Nat.le_refl _) (by intro k hk; cases hk)
  have hr2 := RF.made hown2
  obtain ⟨gO, hgO⟩ : ∃ gO, gO = w.heap.size := ⟨_, rfl⟩
  have hgl : w.heap.size ≤ gO := by omega
  have hne : gF ≠ gO ∧ gG ≠ gO := by have := hf.lt; have := hg.lt; omega
  rw [← hgO] at hr2 ⊢
  have hb0 : Hid (Below w.heap.size w w2) := hb2
  have hr0 : Hid (RF w2 gO N (fun x => if x < 0 then pnum f g x else 0)) := RF.congr hr2 (fun x _ => (if_neg (by omega)).symm)
  clear hgO hown2 hg2 hr2 hb2 hf hg
  go_wp2_with fail
  go_loopw [12] (fun v12 wr => ∃ i : Nat, i ≤ N ∧ v12 = .int .i64 (i : Int) ∧ Hid (RF wr gO N (fun x => if x < i then pnum f g x else 0)) ∧ Hid (Below w.heap.size w wr)) (fun i _ => N - (intOf i).toNat)
  case atStart => exact ⟨0, by omega, rfl, hr0, hb0⟩
  case round =>
    clear hr0 hb0
    obtain ⟨i, hi, rfl, hR, hb⟩ := hrel
    by_cases hin : i < N
    · have hinN : (i : Int) < (N : Int) := by omega
      have cFi := (hf0.out.call hb.out).cell hin
      have cGi := (hg0.out.call hb.out).cell hin
      have cOi := hR.out.cell hin
      have fOi := hR.out.frozen i
      have hset : Hid (∀ v, v = pnum f g i → RF (wr.setCell ⟨gO, i, none⟩ (.int .i64 v)) gO N (fun x => if x < i + 1 then pnum f g x else 0)) := by
        rintro v rfl
        refine RF.congr (hR.out.set i _) (fun x _ => ?_)
        unfold upd
        by_cases e : x = i
        · rw [if_pos e, if_pos (by omega), e]
        · rw [if_neg e]
          show (if x < i then pnum f g x else 0) = _
          by_cases e2 : x < i
          · rw [if_pos e2, if_pos (by omega)]
          · rw [if_neg e2, if_neg (by omega)]
      have hbs : Hid (∀ v, Below w.heap.size w (wr.setCell ⟨gO, i, none⟩ v)) := fun v => hb.out.setCell (by show _ ≤ gO; exact hgl) _
      clear hR
      cases hfi : f i with
      | true =>
        rw [hfi] at cFi
        have hv := Lib.hid (hset.out 0 (by unfold pnum; rw [if_pos hfi]))
        have hbv := Lib.hid (hbs.out (.int .i64 0))
        clear hset hbs hfi
        go_wp2_with fail
        go_roundw
        case rel => exact ⟨i + 1, by omega, by go_num, hv, hbv⟩
        case measure => simp [intOf]; omega
      | false =>
        rw [hfi] at cFi
        cases hgi : g i with
        | true =>
          rw [hgi] at cGi
          have hv := Lib.hid (hset.out 2 (by unfold pnum; rw [if_neg (by rw [hfi]; simp), if_pos hgi]))
          have hbv := Lib.hid (hbs.out (.int .i64 2))
          clear hset hbs hfi hgi
          go_wp2_with fail
          go_roundw
          case rel => exact ⟨i + 1, by omega, by go_num, hv, hbv⟩
          case measure => simp [intOf]; omega
        | false =>
          rw [hgi] at cGi
          have hv := Lib.hid (hset.out 1 (by unfold pnum; rw [if_neg (by rw [hfi]; simp), if_neg (by rw [hgi]; simp)]))
          have hbv := Lib.hid (hbs.out (.int .i64 1))
          clear hset hbs hfi hgi
          go_wp2_with fail
          go_roundw
          case rel => exact ⟨i + 1, by omega, by go_num, hv, hbv⟩
          case measure => simp [intOf]; omega
    · have hin' : N = i := by omega
      subst hin'
      have hres : Hid (RF wr gO N (pnum f g)) := RF.congr hR.out (fun x hx => if_pos hx)
      clear hR
      go_wp2_with fail
      go_ret
      exact ⟨gO, hgl, rfl, hres.out, hb.out⟩

/-! ## plain -/
theorem parts_same {E : List (List Nat)} {R C : Nat} {T : Nat → List Nat} (hI : Inc R C E) (hT : TS E R T) {row col : Nat → Int} (hrow : row = (fill E (fun _ => true) (fun _ => true) C R).1) (hcol : col = (fill E (fun _ => true) (fun _ => true) C R).2) {fo go fu gu : Nat → Bool}
    (h1 : ∀ i, fo i = true ↔ RX E R row col true i) (h2 : ∀ k, go k = true ↔ RX E R row col false k)
    (h3 : ∀ k, fu k = true ↔ RX ((List.range C).map T) C (fill ((List.range C).map T) (fun _ => true) (fun _ => true) R C).1 (fill ((List.range C).map T) (fun _ => true) (fun _ => true) R C).2 true k)
    (h4 : ∀ r, gu r = true ↔ RX ((List.range C).map T) C (fill ((List.range C).map T) (fun _ => true) (fun _ => true) R C).1 (fill ((List.range C).map T) (fun _ => true) (fun _ => true) R C).2 false r) :
    (∀ i, i < R → pnum fo gu i = prow E R C row col i) ∧ ∀ k, k < C → pnum go fu k = pcol E R C row col k := by
  have hE := hI.2.2.2
  have mx : Mx E R C row col := by rw [hrow, hcol]; exact fill_mx hE
  have h3' : ∀ k, fu k = true ↔ Rch E R C row col false k := fun k => by rw [h3, rx_same hI hT, hrow, hcol]; rfl
  have h4' : ∀ k, gu k = true ↔ Rch E R C row col true k := fun k => by rw [h4, rx_same hI hT, hrow, hcol]; rfl
  have hkC : ∀ r k, k ∈ E.getD r [] → k < C := fun r k hk => by
    by_cases hr : r < E.length
    · rw [List.getD_eq_getElem?_getD, List.getElem?_eq_getElem hr] at hk
      exact hE _ (List.getElem_mem hr) k hk
    · rw [List.getD_eq_getElem?_getD, List.getElem?_eq_none (by omega)] at hk
      cases hk
  obtain ⟨p1, p2⟩ := goPA_spec (E := E) (R := R) (C := C) (row := row) (col := col) hkC (fun k hk h0 => (mx.co.ca k hk h0).1)
  have hgo := goA_spec mx hI.2.2.1
  obtain ⟨X, S, x1, x2, x3⟩ := mx.wit
  have hin : ∀ b x, RX E R row col b x → if b = true then X x else S x := by
    intro b x h
    induction h with
    | free i hi h0 => exact x3 i hi h0
    | down i k _ hk ih => exact x1 i ih k hk
    | back k _ h0 ih => exact (x2 k ih).2.2
  have hd1 : ∀ i, RX E R row col true i → ¬ Rch E R C row col true i := fun i h h' => Rch.out mx x1 x2 h' (hin _ _ h)
  have hd2 : ∀ k, RX E R row col false k → ¬ Rch E R C row col false k := fun k h h' => Rch.out mx x1 x2 h' (hin _ _ h)
  refine ⟨fun i hi => ?_, fun k hk => ?_⟩
  · unfold pnum prow mrk
    by_cases a : fo i = true
    · have b := (h1 i).1 a
      rw [if_pos a, if_neg (fun h => hd1 i b ((hgo i).1 h)), if_pos ((p1 i).2 b)]
    · have b : ¬ (goPA E R row col R).rs i = true := fun h => a ((h1 i).2 ((p1 i).1 h))
      rw [if_neg a, if_neg b]
      by_cases c : gu i = true
      · rw [if_pos c, if_pos ((hgo i).2 ((h4' i).1 c))]
      · rw [if_neg c, if_neg (fun h => c ((h4' i).2 ((hgo i).1 h)))]
  · have hq : Rch E R C row col false k ↔ (col k < 0 ∨ anyr (goA E C row col C).rs row R k = true) := by
      constructor
      · intro h
        by_cases h0 : col k < 0
        · exact .inl h0
        · right
          have hr := Rch.col_of mx h (by omega)
          obtain ⟨a1, a2⟩ := mx.co.ca k hk (by omega)
          have a2 := a2 (by omega)
          unfold anyr
          rw [List.any_eq_true]
          exact ⟨(col k).toNat, List.mem_range.2 a1, by rw [(hgo _).2 hr, a2]; simp⟩
      · rintro (h0 | h)
        · exact .free k hk h0
        · unfold anyr at h
          rw [List.any_eq_true] at h
          obtain ⟨r, hr, h⟩ := h
          simp only [Bool.and_eq_true, beq_iff_eq] at h
          have hrr := (hgo r).1 h.1
          have := Rch.back r hrr (by omega)
          rw [h.2] at this
          simpa using this
    have hyes : Rch E R C row col false k → pcol E R C row col k = 2 := fun h => by
      unfold pcol
      by_cases h0 : col k < 0
      · rw [if_pos h0]
      · rw [if_neg h0]
        rcases hq.1 h with y | y
        · contradiction
        · rw [if_pos y]
    have hno : ¬ Rch E R C row col false k → pcol E R C row col k = mrk (goPA E R row col R).cs k := fun h => by
      unfold pcol
      rw [if_neg (fun x => h (hq.2 (.inl x))), if_neg (fun x => h (hq.2 (.inr x)))]
    unfold pnum
    by_cases a : go k = true
    · have b := (h2 k).1 a
      rw [if_pos a, hno (hd2 k b)]
      exact (if_pos ((p2 k).2 b)).symm
    · rw [if_neg a]
      by_cases c : fu k = true
      · rw [if_pos c, hyes ((h3' k).1 c)]
      · rw [if_neg c, hno (fun h => c ((h3' k).2 h))]
        exact (if_neg (fun h => a ((h2 k).2 ((p2 k).1 h)))).symm

set_option maxRecDepth 100000 in
set_option maxHeartbeats 1000000 in
theorem ref_parts (rows cols : Int) (A : Option Addr) (n c : Nat) (ls : List (List Int)) (w : World) (hL : L2 w A n c ls) (hr : In64 rows) (hc : In64 cols) :
    Calls Try.prog 17 #[.agg #[.int .i64 rows, .int .i64 cols, .slice A n c]] w (PPt rows cols ls w) := by
  have hO := Own.one w 33 #[.int .i64 rows, .int .i64 cols, .slice A n c]
  have hV := ref_validate rows cols A n c ls _ (hL.below hO.1 (Nat.le_refl _)) hr hc
  have hO' := Lib.hid hO
  rcases vErr_two rows cols ls with h0 | h1
  · have hnd := nd_of h0
    rw [h0] at hV
    have hV' := Lib.hid hV
    obtain ⟨e1, e2, hI, hnn⟩ := inc_of h0
    have hN := n2_of hL hnn
    obtain ⟨R, hR⟩ : ∃ R, R = rows.toNat := ⟨_, rfl⟩
    obtain ⟨C, hC⟩ : ∃ C, C = cols.toNat := ⟨_, rfl⟩
    obtain ⟨E, hE⟩ : ∃ E, E = nE ls := ⟨_, rfl⟩
    rw [← hR, ← hC, ← hE] at hI
    have hS : Hid (partsS rows cols ls = partsT E R C (fill E (fun _ => true) (fun _ => true) C R).1 (fill E (fun _ => true) (fun _ => true) C R).2) := by
      show _ = _
      unfold partsS
      rw [if_pos h0, ← hR, ← hC, ← hE]
    unfold PPt
    obtain ⟨S, hS2⟩ : ∃ S, S = partsS rows cols ls := ⟨_, rfl⟩
    rw [← hS2] at hS ⊢
    rw [← hR] at e1
    rw [← hC] at e2
    rw [← hE] at hN hnd
    have hR64 := hI.1
    have hC64 := hI.2.1
    have hnR : n = R := by have := hN.1; have := hI.2.2.1; omega
    have hI' := Lib.hid hI
    have hnd' := Lib.hid hnd
    clear hV hS2 hR hC hE h0 hI hnd
    subst e1 e2 hnR
    have mk0 : True := trivial
    go_enter Try.func17, Try.ntmps17
    go_wp2_with (first
      | (go_at_call 28; (with_reducible refine hV'.out.mono ?_); rintro e w2 ⟨rfl, hb2⟩; have hO2 := Lib.hid (hO'.out.call hb2); obtain ⟨m0, m1, m2⟩ := cells3 hO2.out.b0)
      | (clear mk0; go_at_call 46; refine (ref_reached n C E hI'.out w.heap.size A c w2 hO2.out.1.size (hN.below hO2.out.1)).mono ?_; rintro e w3 ⟨gFo, gGo, fo, go, rfl, hfo, hgo, h1, h2, hb3⟩; have hO3 := Lib.hid (hO2.out.call hb3); obtain ⟨m0, m1, m2⟩ := cells3 hO3.out.b0)
      | (go_at_call 47; refine (ref_turned n C E hI'.out hnd'.out w.heap.size A c w3 hO3.out.1.size (hN.below hO3.out.1)).mono ?_; rintro e w4 ⟨gT, T, rfl, hT, hNT, hb4⟩; have hIT := Lib.hid (hT.inc hI'.out); have hfo4 := hfo.call hb4; have hgo4 := hgo.call hb4)
      | (go_at_call 46; refine (ref_reached C n ((List.range C).map T) hIT.out w4.heap.size (some ⟨gT, 0, none⟩) C w4 (Nat.le_refl _) hNT).mono ?_; rintro e w5 ⟨gFu, gGu, fu, gu, rfl, hfu, hgu, h3, h4, hb5⟩; have hfo5 := hfo4.call hb5; have hgo5 := hgo4.call hb5; have mk1 : True := trivial)
      | (clear mk1; go_at_call 48; refine (ref_parts0 gFo gGu n hR64 fo gu _ hfo5 hgu).mono ?_; rintro e w6 ⟨g6, hg6, rfl, hr6, hb6⟩)
      | (go_at_call 48; refine (ref_parts0 gGo gFu C hC64 go fu _ (hgo5.call hb6) (hfu.call hb6)).mono ?_; rintro e w7 ⟨g7, hg7, rfl, hr7, hb7⟩))
    go_ret3
    obtain ⟨q1, q2⟩ := parts_same hI'.out hT rfl rfl h1 h2 h3 h4
    have z1 := (RF.congr hr6 q1).call hb7
    have z2 := RF.congr hr7 q2
    refine ⟨_, _, _, _, _, _, _, _, _, rfl, z1.il (by omega), z2.il (by omega), hS, ?_⟩
    have y3 := hO3.out.1
    have y4 := y3.trans (hb4.mono y3.size)
    have y5 := y4.trans (hb5.mono y4.size)
    have y6 := y5.trans (hb6.mono y5.size)
    exact y6.trans (hb7.mono y6.size)
  · rw [h1] at hV
    have hV' := Lib.hid hV
    have hS : Hid (partsS rows cols ls = ([], [], 1)) := if_neg (by rw [h1]; omega)
    clear hV h1
    unfold PPt
    obtain ⟨S, hS2⟩ : ∃ S, S = partsS rows cols ls := ⟨_, rfl⟩
    rw [← hS2] at hS ⊢
    clear hS2 hO
    go_enter Try.func17, Try.ntmps17
    go_wp2_with (first
      | (go_at_call 28; (with_reducible refine hV'.out.mono ?_); rintro e w2 ⟨rfl, hb2⟩; have hO2 := Lib.hid (hO'.out.call hb2)))
    go_ret3
    exact ⟨_, _, _, _, _, _, _, _, _, rfl, IL.nil _, IL.nil _, hS, hO2.out.1⟩

end Go.Proofs.Ytjbhnfejpgjghaa
