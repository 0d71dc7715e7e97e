/- The reference's Number and Size. -/
import Derived.Laws.CopyOwn
import Derived.Test.YtjbhnfejpgjghaaSe
import Derived.Test.YtjbhnfejpgjghaaSd
import Derived.Test.YtjbhnfejpgjghaaMo
import Derived.Test.YtjbhnfejpgjghaaQg
namespace Go.Proofs.Ytjbhnfejpgjghaa
open Go.RowKit
set_option linter.unusedSimpArgs false
set_option linter.unusedVariables false

set_option maxRecDepth 100000 in
set_option maxHeartbeats 1000000 in
theorem ref_number (R C : Nat) (E : List (List Nat)) (hI : Inc R C E) (B : Nat) (AE : Option Addr) (cE : Nat) (w : World) (hB : B ≤ w.heap.size) (hN : N2 B w AE R cE E) :
    Calls Try.prog 55 #[.agg #[.int .i64 (R : Int), .int .i64 (C : Int), .slice AE R cE]] w fun e w' => e = .returned (.int .i64 ((sz E (fun _ => true) (fun _ => true) R C : Nat) : Int)) ∧ Below w.heap.size w w' := by
  have hO := Own.one w 33 #[.int .i64 (R : Int), .int .i64 (C : Int), .slice AE R cE]
  obtain ⟨m0, m1, m2⟩ := cells3 hO.b0
  have hp := Lib.hid (ref_paired R C E hI B AE cE _ (Nat.le_trans hB hO.1.size) (hN.below (hO.1.mono hB)))
  have hO' := Lib.hid hO
  clear hO
  go_enter Try.func55, Try.ntmps55
  go_wp2_with (first
    | (go_at_call 61; (with_reducible refine hp.out.mono ?_); rintro e w2 ⟨gP, gRow, gCol, gOR, gOC, rfl, hge, hdd, hzf, hq, hb2⟩; have hf := Lib.hid (ref_fill (QT.mk gP gRow gCol gOR gOC B AE cE R C E (fun _ => true) (fun _ => true)) hzf w2 hq (by
        intro g hg
        have hg' : g = gP ∨ g = gRow ∨ g = gCol ∨ g = gOR ∨ g = gOC := by simpa using hg
        have h0 := hq.bP.lt
        have h1 := hq.row.lt
        have h2 := hq.col.lt
        have h3 := hq.oR.lt
        have h4 := hq.oC.lt
        rcases hg' with rfl | rfl | rfl | rfl | rfl
        · exact h0
        · exact h1
        · exact h2
        · exact h3
        · exact h4)))
    | (go_at_call 62; refine hf.out.mono ?_; rintro e w3 ⟨rfl, hq3, hf3⟩))
  go_ret
  obtain ⟨l0, l1, l2, l3, l4⟩ := hge
  have hO2 := hO'.out.call hb2
  refine ⟨rfl, hO2.1.trans (hf3.below hO2.1.size ?_)⟩
  intro x hx
  have hs := hO'.out.1.size
  have hx' : x = gRow ∨ x = gCol := by simpa using hx
  omega

set_option maxRecDepth 100000 in
theorem ref_size (rows cols : Int) (A : Option Addr) (n c : Nat) (ls : List (List Int)) (w : World) (hL : L2 w A n c ls) (hr : In64 rows) (hc : In64 cols) :
    Calls Try.prog 26 #[.agg #[.int .i64 rows, .int .i64 cols, .slice A n c]] w (PSize rows cols ls w) := by
  have hO := Own.one w 33 #[.int .i64 rows, .int .i64 cols, .slice A n c]
  have hV := ref_validate rows cols A n c ls _ (hL.below hO.1 (Nat.le_refl _)) hr hc
  have hO' := Lib.hid hO
  rcases vErr_two rows cols ls with h0 | h1
  · rw [h0] at hV
    have hV' := Lib.hid hV
    obtain ⟨e1, e2, hI, hnn⟩ := inc_of h0
    have hN := n2_of hL hnn
    have hS : Hid (sizeS rows cols ls = (((sz (nE ls) (fun _ => true) (fun _ => true) rows.toNat cols.toNat : Nat) : Int), 0)) := if_pos h0
    unfold PSize
    obtain ⟨S, hS2⟩ : ∃ S, S = sizeS rows cols ls := ⟨_, rfl⟩
    rw [← hS2] at hS ⊢
    obtain ⟨R, hR⟩ : ∃ R, R = rows.toNat := ⟨_, rfl⟩
    obtain ⟨C, hC⟩ : ∃ C, C = cols.toNat := ⟨_, rfl⟩
    rw [← hR, ← hC] at hS hI
    rw [← hR] at e1
    rw [← hC] at e2
    have hI' := Lib.hid hI
    have hR64 := hI.1
    have hnR : n = R := by have := hN.1; have := hI.2.2.1; omega
    clear hV hI hS2 hR hC h0
    subst e1 e2 hnR
    go_enter Try.func26, Try.ntmps26
    go_wp2_with (first
      | (go_at_call 28; (with_reducible refine hV'.out.mono ?_); rintro e w2 ⟨rfl, hb2⟩; have hO2 := Lib.hid (hO'.out.call hb2); obtain ⟨m0, m1, m2⟩ := cells3 hO2.out.b0)
      | (go_at_call 55; refine (ref_number n C (nE ls) hI'.out w.heap.size A c _ hO2.out.1.size (hN.below hO2.out.1)).mono ?_; rintro e w3 ⟨rfl, hb3⟩; have hO3 := Lib.hid (hO2.out.call hb3)))
    go_ret2
    exact ⟨_, _, rfl, hS, hO3.out.1⟩
  · rw [h1] at hV
    have hV' := Lib.hid hV
    have hS : Hid (sizeS rows cols ls = (0, 1)) := if_neg (by rw [h1]; omega)
    clear hV h1
    unfold PSize
    obtain ⟨S, hS2⟩ : ∃ S, S = sizeS rows cols ls := ⟨_, rfl⟩
    rw [← hS2] at hS ⊢
    clear hS2
    go_enter Try.func26, Try.ntmps26
    go_wp2_with (first
      | (go_at_call 28; (with_reducible refine hV'.out.mono ?_); rintro e w2 ⟨rfl, hb2⟩; have hO2 := Lib.hid (hO'.out.call hb2)))
    go_ret2
    exact ⟨_, _, rfl, hS, hO2.out.1⟩



end Go.Proofs.Ytjbhnfejpgjghaa

/- The reference's rest. -/
namespace Go.Proofs.Ytjbhnfejpgjghaa
open Go.RowKit
set_option linter.unusedSimpArgs false
set_option linter.unusedVariables false

theorem RO.block {w : World} {g N : Nat} {f : Nat → Bool} (h : RO w g N f) : ∃ cur : Array Value, w.heap[g]? = some (.cells cur 4 (0, 0)) ∧ N ≤ cur.size := by
  obtain ⟨h1, h2⟩ := h
  rcases h2 with ⟨q, -⟩ | ⟨g', cap, cur, q, h3, h4, h5, h6, h7, h8⟩
  · cases q
  · have e2 : g = g' ∧ N = cap := by simp at q; omega
    obtain ⟨rfl, rfl⟩ := e2
    exact ⟨cur, h4, by omega⟩
/-- a copy of one row into another -/
theorem RO.copied {w : World} {g N : Nat} {f u : Nat → Bool} {cur : Array Value} (h : RO w g N f) (hc : w.heap[g]? = some (.cells cur 4 (0, 0))) : RO (w.setRow g (cur.toList.take 0 ++ (vb N u ++ cur.toList.drop (0 + (vb N u).length))).toArray) g N u := by
  have hl : (vb N u).length = N := by simp [vb]
  obtain ⟨h1, h2⟩ := h
  rcases h2 with ⟨q, -⟩ | ⟨g', cap, cur', q, h3, h4, h5, h6, h7, h8⟩
  · cases q
  · have e2 : g = g' ∧ N = cap := by simp at q; omega
    obtain ⟨rfl, rfl⟩ := e2
    rw [hc] at h4
    injection h4 with h4
    injection h4 with h4 _ _
    subst h4
    refine ⟨by rw [hl, Nat.mul_one], .inr ⟨g, N, _, rfl, h3, setRow_heap _ _ _ _ _ _ hc, Nat.le_refl _, h6, ?_, ?_⟩⟩
    · simp [hl]; omega
    · rw [Nat.mul_one, hl]
      simp only [List.take_zero, List.nil_append, Nat.zero_add, List.toList_toArray]
      rw [List.take_append_of_le_length (by omega), List.take_of_length_le (by omega)]

set_option maxRecDepth 100000 in
set_option maxHeartbeats 1000000 in
theorem ref_rest (R C : Nat) (E : List (List Nat)) (hI : Inc R C E) (B : Nat) (AE : Option Addr) (cE : Nat) (w : World) (hB : B ≤ w.heap.size) (hN : N2 B w AE R cE E) (fr gX : Nat) (hfr : fr ≤ R) (used : Nat → Bool) (hX : RO w gX C used) :
    Calls Try.prog 63 #[.agg #[.int .i64 (R : Int), .int .i64 (C : Int), .slice AE R cE], .int .i64 (fr : Int), .slice (some ⟨gX, 0, none⟩) C C] w fun e w' => e = .returned (.int .i64 ((sz E (fun c => !used c) (fun r => decide (fr ≤ r)) R C : Nat) : Int)) ∧ Below w.heap.size w w' := by
  have hO := Own.one w 33 #[.int .i64 (R : Int), .int .i64 (C : Int), .slice AE R cE]
  obtain ⟨m0, m1, m2⟩ := cells3 hO.b0
  have hR64 := hI.1
  have hC64 := hI.2.1
  have hp := Lib.hid (ref_paired R C E hI B AE cE _ (Nat.le_trans hB hO.1.size) (hN.below (hO.1.mono hB)))
  have hX1 := Lib.hid (hX.call hO.1)
  have hO' := Lib.hid hO
  clear hO hX
  go_enter Try.func63, Try.ntmps63
  go_upto_region 2 with (go_at_call 61; (with_reducible refine hp.out.mono ?_); rintro e w2 ⟨gP, gRow, gCol, gOR, gOC, rfl, hge, hdd, hzf, hq, hb2⟩)
  have hX2 := hX1.out.call hb2
  have cP4 : w2.cell? ⟨gP, 4, none⟩ = some (.slice (some ⟨gOC, 0, none⟩) C C) := hq.bP.cell 4
  obtain ⟨cur, hcur, hcsz⟩ := RO.block hq.oC
  have hcsz' : C ≤ cur.size := hcsz
  have hcl : (vb C used).length = C := by simp [vb]
  obtain ⟨w3, hw9⟩ : ∃ w3, w3 = w2.setRow gOC (vb C used ++ List.drop C cur.toList).toArray := ⟨_, rfl⟩
  have hw3 : w3 = w2.setRow gOC (cur.toList.take 0 ++ (vb C used ++ cur.toList.drop (0 + (vb C used).length))).toArray := by rw [hw9, hcl]; simp
  obtain ⟨l0, l1, l2, l3, l4⟩ := hge
  have hs0 := hO'.out.1.size
  have hlow : Hid (Below w.heap.size w w3) := by
    show Below _ _ _
    rw [hw3]
    exact below_setRow (hO'.out.call hb2).1 (by omega) _
  have hq3 : Hid (QS (QT.mk gP gRow gCol gOR gOC B AE cE R C E (fun c => !used c) (fun r => decide (0 ≤ r))) (fun _ => -1) (fun _ => -1) w3) := by
    have hk : ∀ g, g ≠ gOC → w3.heap[g]? = w2.heap[g]? := fun g hg => by rw [hw3]; exact setRow_other _ _ _ _ hg
    have hoc := RO.copied (u := used) hq.oC hcur
    rw [← hw3] at hoc
    exact ⟨(hk gP hdd.2.1).trans hq.bP, hN.below (hlow.out.mono hB), hq.row.same (hk gRow (fun e => (hzf.no gOC (by simp)).1 e.symm)), hq.col.same (hk gCol (fun e => (hzf.no gOC (by simp)).2 e.symm)),
      (hq.oR.same (hk gOR hdd.2.2)).congr (fun i _ => by simp), hoc.congr (fun i _ => by simp), Nat.le_trans hB hlow.out.size⟩
  have hsrc : ∀ j v, (vb C used)[j]? = some v → w2.cell? ((⟨gX, 0, none⟩ : Addr).add j) = some v := fun j v hj => by
    have hjl := (List.getElem?_eq_some_iff.1 hj).1
    rw [hcl] at hjl
    have h1 := hX2.cell hjl
    have h2 : v = .bool (used j) := by simp [vb, hjl] at hj; exact hj.symm
    rw [h2, ← h1]
    unfold Addr.add
    split <;> simp_all
  have hzf' := Lib.hid hzf
  have hdd' := Lib.hid hdd
  go_wp2_with (refine wpList_copy_own rfl _ _ 67 67 rfl 4 Try.underlying67 (by kernel_rfl) gOC 0 C C ⟨gX, 0, none⟩ C C rfl rfl cur 4 hcur (vb C used) (by rw [hcl]; simp) hsrc (by omega) (by intro v hv; simp [vb] at hv; obtain ⟨i, -, rfl⟩ := hv; rfl) ?_)
  clear hsrc hcur hq hp hX1 hX2 cP4 hw3 hb2 hzf hdd m0 m1 m2
  go_wp2_with fail
  rw [← hw9]
  clear hw9
  go_loopw [8] (fun v8 wr => ∃ i : Nat, i ≤ fr ∧ v8 = .int .i64 (i : Int) ∧ Hid (QS (QT.mk gP gRow gCol gOR gOC B AE cE R C E (fun c => !used c) (fun r => decide (i ≤ r))) (fun _ => -1) (fun _ => -1) wr) ∧ Hid (Below w.heap.size w wr)) (fun i _ => fr - (intOf i).toNat)
  case atStart => exact ⟨0, by omega, rfl, hq3, hlow⟩
  case round =>
    clear hq3 hlow
    obtain ⟨i, hi, rfl, hq, hlo⟩ := hrel
    by_cases hlt : i < fr
    · have cP3 : wr.cell? ⟨gP, 3, none⟩ = some (.slice (some ⟨gOR, 0, none⟩) R R) := hq.out.bP.cell 3
      have cOi : wr.cell? ⟨gOR, i, none⟩ = some (.bool (!decide (i ≤ i))) := hq.out.oR.cell (by show i < R; omega)
      have fOi : wr.frozen? ⟨gOR, i, none⟩ = false := hq.out.oR.frozen i
      have hif : (i : Int) < (fr : Int) := by omega
      have hiR : (i : Int) < (R : Int) := by omega
      have hq2 : Hid (QS (QT.mk gP gRow gCol gOR gOC B AE cE R C E (fun c => !used c) (fun r => decide (i + 1 ≤ r))) (fun _ => -1) (fun _ => -1) (wr.setCell ⟨gOR, i, none⟩ (.bool true))) := by
        have h := hq.out
        have hn := hzf'.out.no gOR (by simp)
        have hbb := hzf'.out.b
        refine ⟨h.bP.far hdd'.out.1 _, h.en.below ((Below.refl _ _).setCell (by show B ≤ gOR; exact hbb.2.2.2.1) _), h.row.other hn.1.symm _ _, h.col.other hn.2.symm _ _, (h.oR.set i true).congr (fun j _ => ?_), h.oC.other (Ne.symm hdd'.out.2.2) _ _, by simpa [World.setCell] using h.sz⟩
        unfold upd
        by_cases e : j = i
        · rw [if_pos e, e]
          show true = !decide (i + 1 ≤ i)
          simp
        · rw [if_neg e]
          show (!decide (i ≤ j)) = !decide (i + 1 ≤ j)
          congr 1
          rw [decide_eq_decide]
          omega
      have hlo2 : Hid (Below w.heap.size w (wr.setCell ⟨gOR, i, none⟩ (.bool true))) := hlo.out.setCell (by show _ ≤ gOR; omega) _
      clear hq hlo
      go_wp2_with fail
      go_roundw
      case rel => exact ⟨i + 1, by omega, by go_num, hq2, hlo2⟩
      case measure => simp [intOf]; omega
    · have hin : fr = i := by omega
      subst hin
      have hzi : QT.Fine (QT.mk gP gRow gCol gOR gOC B AE cE R C E (fun c => !used c) (fun r => decide (fr ≤ r))) := ⟨hzf'.out.inc, hzf'.out.b, hzf'.out.rc, hzf'.out.no⟩
      have hf := Lib.hid (ref_fill (QT.mk gP gRow gCol gOR gOC B AE cE R C E (fun c => !used c) (fun r => decide (fr ≤ r))) hzi wr hq.out (by
        intro g hg
        have hg' : g = gP ∨ g = gRow ∨ g = gCol ∨ g = gOR ∨ g = gOC := by simpa using hg
        have h0 := hq.out.bP.lt
        have h1 := hq.out.row.lt
        have h2 := hq.out.col.lt
        have h3 := hq.out.oR.lt
        have h4 := hq.out.oC.lt
        rcases hg' with rfl | rfl | rfl | rfl | rfl
        · exact h0
        · exact h1
        · exact h2
        · exact h3
        · exact h4))
      go_wp2_with (go_at_call 62; refine hf.out.mono ?_; rintro e w5 ⟨rfl, hq5, hf5⟩)
      go_ret
      refine ⟨rfl, hlo.out.trans (hf5.below hlo.out.size ?_)⟩
      intro x hx
      have hx' : x = gRow ∨ x = gCol := by simpa using hx
      omega

end Go.Proofs.Ytjbhnfejpgjghaa

/- The reference's least maximum matching. -/
namespace Go.Proofs.Ytjbhnfejpgjghaa
open Go.RowKit
set_option linter.unusedSimpArgs false
set_option linter.unusedVariables false

theorem lst_ge (E : List (List Nat)) (R C : Nat) : ∀ n x, n ≤ x → (lst E R C n).out x = -1 := by
  intro n
  induction n with
  | zero => intro x _; rfl
  | succ n ih =>
    intro x hx
    unfold lst
    split
    · exact ih x (by omega)
    · show upd _ _ _ x = -1
      rw [upd_other _ _ _ _ (by omega)]
      exact ih x (by omega)

/-- what holds throughout -/
def RW (w : World) (m : Array Value) (R C gO gC : Nat) (out : Nat → Int) (used : Nat → Bool) (wr : World) : Prop :=
  Own w [(33, m)] wr ∧ RF wr gO R out ∧ RO wr gC C used
theorem RW.call {w wr w' : World} {m R C gO gC out used} (h : RW w m R C gO gC out used wr) (hb : Below wr.heap.size wr w') : RW w m R C gO gC out used w' := ⟨h.1.call hb, h.2.1.call hb, h.2.2.call hb⟩
theorem RW.drewN {w wr : World} {m R C gO gC out used} (h : RW w m R C gO gC out used wr) (n : Nat) : RW w m R C gO gC out used (wr.drewN n) := h.call (bdN (Below.refl _ _) n)
theorem RW.setO {w wr : World} {m R C gO gC out used} (h : RW w m R C gO gC out used wr) (hO : w.heap.size + 1 ≤ gO) (hne : gO ≠ gC) (i : Nat) (v : Int) : RW w m R C gO gC (upd out i v) used (wr.setCell ⟨gO, i, none⟩ (.int .i64 v)) := by
  have hf : Fr [gO] wr (wr.setCell ⟨gO, i, none⟩ (.int .i64 v)) := (Fr.refl _ _).set (by simp) _
  exact ⟨h.1.fr hf (by simp; omega), h.2.1.set i v, h.2.2.other (Ne.symm hne) _ _⟩
theorem RW.setC {w wr : World} {m R C gO gC out used} (h : RW w m R C gO gC out used wr) (hO : w.heap.size + 1 ≤ gC) (hne : gO ≠ gC) (i : Nat) (v : Bool) : RW w m R C gO gC out (upd used i v) (wr.setCell ⟨gC, i, none⟩ (.bool v)) := by
  have hf : Fr [gC] wr (wr.setCell ⟨gC, i, none⟩ (.bool v)) := (Fr.refl _ _).set (by simp) _
  exact ⟨h.1.fr hf (by simp; omega), h.2.1.other hne _ _, h.2.2.set i v⟩
theorem RW.congr {w wr : World} {m R C gO gC out used out' used'} (h : RW w m R C gO gC out used wr) (h1 : ∀ i, i < R → out i = out' i) (h2 : ∀ i, i < C → used i = used' i) : RW w m R C gO gC out' used' wr := ⟨h.1, RF.congr h.2.1 h1, h.2.2.congr h2⟩

def lto (E : List (List Nat)) (R C i n : Nat) : Nat → Int := fun x => if x < n then (lst E R C i).out x else 0

set_option maxRecDepth 100000 in
set_option maxHeartbeats 1000000 in
theorem ref_least (R C : Nat) (E : List (List Nat)) (hI : Inc R C E) (B : Nat) (AE : Option Addr) (cE : Nat) (w : World) (hB : B ≤ w.heap.size) (hN : N2 B w AE R cE E) :
    Calls Try.prog 54 #[.agg #[.int .i64 (R : Int), .int .i64 (C : Int), .slice AE R cE]] w (PL R C E w) := by
  have hR := hI.1
  have hC := hI.2.1
  have hI' := Lib.hid hI
  clear hI
  obtain ⟨i0, hi0, hz0, hz1, hz2⟩ := info_parts infoI
  obtain ⟨j0, hj0, yz0, yz1, yz2⟩ := infoB_parts
  obtain ⟨w1, hw1⟩ : ∃ w1, w1 = w.alloc (.cells #[.int .i64 (R : Int), .int .i64 (C : Int), .slice AE R cE] 33) := ⟨_, rfl⟩
  have hO1 : Hid (Own w [(33, #[.int .i64 (R : Int), .int .i64 (C : Int), .slice AE R cE])] w1) := by rw [hw1]; exact Own.one _ _ _
  obtain ⟨m0, m1, m2⟩ := cells3 hO1.out.b0
  go_enter Try.func54, Try.ntmps54
  go_upto_region 1 with fail
  rw [← hw1]
  clear hw1
  go_upto_region 2 with (at_make; refine wpList_make_full _ rfl _ _ 23 rfl w1.heap.size 3 i0 (.int .i64 0) 1 Try.underlying23 hi0 hz0 hz1 .i64 .i64 _ _ R rfl rfl (by rfl) (by rfl) (by rw [hz2]; omega) (by simp [maxLen]; omega) (Nat.le_refl _) ?_; intro w2 hown2 hg2)
  have hb2 : Below w1.heap.size w1 w2 := (Below.refl _ _).grown hg2 (Nat.le_refl _) (by intro k hk; cases hk)
  have hO2 := Lib.hid (hO1.out.call hb2)
  have hrO2 := raw_rf hown2
  obtain ⟨gO, hgO⟩ : ∃ gO, gO = w1.heap.size := ⟨_, rfl⟩
  have hgO1 : w.heap.size + 1 ≤ gO := by have h : w.heap.size + 1 ≤ w1.heap.size := hO1.out.2.1; omega
  obtain ⟨m0, m1, m2⟩ := cells3 hO2.out.b0
  rw [← hgO] at hrO2 ⊢
  clear hown2 hg2 hb2 hO1 hgO
  go_upto_region 3 with (at_make; refine wpList_make_full _ rfl _ _ 67 rfl w2.heap.size 4 j0 (.bool false) 1 Try.underlying67 hj0 yz0 yz1 .i64 .i64 _ _ C rfl rfl (by rfl) (by rfl) (by rw [yz2]; omega) (by simp [maxLen]; omega) (Nat.le_refl _) ?_; intro w3 hown3 hg3)
  have hb3 : Below w2.heap.size w2 w3 := (Below.refl _ _).grown hg3 (Nat.le_refl _) (by intro k hk; cases hk)
  have hO3 := Lib.hid (hO2.out.call hb3)
  have hrO3 := raw_ro hown3
  obtain ⟨gC, hgC⟩ : ∃ gC, gC = w2.heap.size := ⟨_, rfl⟩
  have hgC1 : w.heap.size + 1 ≤ gC := by have h : w.heap.size + 1 ≤ w2.heap.size := hO2.out.2.1; omega
  have hne : gO ≠ gC := by have := hrO2.lt; omega
  have hrF3 := hrO2.call hb3
  rw [← hgC] at hrO3 ⊢
  have hLW3 : Hid (RW w #[.int .i64 (R : Int), .int .i64 (C : Int), .slice AE R cE] R C gO gC (lto E R C 0 0) (lst E R C 0).used w3) := ⟨hO3.out, RF.congr hrF3 (fun i _ => by simp [lto]), hrO3⟩
  obtain ⟨m0, m1, m2⟩ := cells3 hO3.out.b0
  have hN3 := Lib.hid (ref_number R C E hI'.out B AE cE w3 (Nat.le_trans hB hO3.out.1.size) (hN.below (hO3.out.1.mono hB)))
  clear hown3 hg3 hb3 hO2 hgC hrO2 hrO3 hrF3 hO3
  go_wp2_with (go_at_call 55; (with_reducible refine hN3.out.mono ?_); rintro e w4 ⟨rfl, hb4⟩)
  have hLW4 := Lib.hid (hLW3.out.call hb4)
  clear hN3 hLW3 hb4 m0 m1 m2
  go_loopw [5, 19] (fun v5 v19 wr => ∃ i : Nat, i ≤ R ∧ v19 = .int .i64 (i : Int) ∧ v5 = .int .i64 (lst E R C i).left ∧ Hid (RW w #[.int .i64 (R : Int), .int .i64 (C : Int), .slice AE R cE] R C gO gC (lto E R C i i) (lst E R C i).used wr)) (fun _ i _ => R - (intOf i).toNat)
  case atStart => exact ⟨0, by omega, rfl, rfl, hLW4⟩
  case round =>
    clear hLW4
    obtain ⟨i, hi, rfl, rfl, hLW⟩ := hrel
    by_cases hlt : i < R
    · have hls0 := lst_ge E R C i i (Nat.le_refl _)
      have hlb := lst_left E R C i
      have hNi : N2 B wr AE R cE E := hN.below (hLW.out.1.1.mono hB)
      obtain ⟨gE, oE, l, A', n', c', hAE, hl, hcE, hl1⟩ := hNi.cell (j := i) hlt
      subst hAE
      have hEi : E.getD i [] = l := by rw [List.getD_eq_getElem?_getD, hl]; rfl
      have hll : ∀ k ∈ l, k < C := hI'.out.2.2.2 l (List.mem_of_getElem? hl)
      have hbw : Hid (∀ wx : World, Own w [(33, #[.int .i64 (R : Int), .int .i64 (C : Int), .slice (some ⟨gE, oE, none⟩) R cE])] wx → N1 B wx A' n' c' l) := by
        have h0 := hLW.out.1
        exact fun wx h => hl1.same fun k hk => (h.1.block k (by omega)).trans (h0.1.block k (by omega)).symm
      have hcE' : Hid (∀ wx : World, Own w [(33, #[.int .i64 (R : Int), .int .i64 (C : Int), .slice (some ⟨gE, oE, none⟩) R cE])] wx → wx.cell? ⟨gE, oE + i, none⟩ = some (.slice A' n' c')) := by
        have h0 := hLW.out.1
        have hgB : gE < B := by
          rcases hN.2.2 with h | ⟨g, o, e, hg, -⟩
          · omega
          · have e2 : gE = g := by injection e with e; injection e
            omega
        exact fun wx h => (World.cell?_of_block (a := ⟨gE, oE + i, none⟩) ((h.1.block gE (by omega)).trans (h0.1.block gE (by omega)).symm)).trans hcE
      have hlen := hl1.1
      have hln := hl1.2.1
      have hlen' := Lib.hid hlen
      have hEi' := Lib.hid hEi
      have hcO : wr.cell? ⟨gO, i, none⟩ = some (.int .i64 0) := by have h := hLW.out.2.1.cell hlt; rw [h]; simp [lto]
      have hfO := hLW.out.2.1.frozen i
      have hiR : (i : Int) < (R : Int) := by omega
      clear hNi hl hl1 hEi hlen hcE
      have hL5 : Hid (RW w #[.int .i64 (R : Int), .int .i64 (C : Int), .slice (some ⟨gE, oE, none⟩) R cE] R C gO gC (lto E R C i (i + 1)) (lst E R C i).used (wr.setCell ⟨gO, i, none⟩ (.int .i64 (-1)))) := by
        refine (hLW.out.setO hgO1 hne i (-1)).congr (fun x hx => ?_) (fun x hx => rfl)
        unfold upd lto
        by_cases e : x = i
        · subst e
          rw [if_pos rfl, if_pos (by omega), hls0]
        · rw [if_neg e]
          by_cases e2 : x < i
          · rw [if_pos e2, if_pos (by omega)]
          · rw [if_neg e2, if_neg (by omega)]
      go_upto_region 8 with fail
      obtain ⟨w5, hw5⟩ : ∃ w5, w5 = wr.setCell ⟨gO, i, none⟩ (.int .i64 (-1)) := ⟨_, rfl⟩
      rw [← hw5] at hL5 ⊢
      clear hw5 hcO hfO hLW
      obtain ⟨m0, m1, m2⟩ := cells3 hL5.out.1.b0
      have hcE := hcE'.out _ hL5.out.1
      go_upto_region 9 with fail
      clear m0 m1 m2 hcE
      obtain ⟨le, hle⟩ : ∃ le, le = (lst E R C i).left := ⟨_, rfl⟩
      rw [← hle] at hlb ⊢
      have hle' := Lib.hid hle
      clear hle
      go_loopw [5, 31] (fun v5 v31 wr => ∃ j : Nat, j ≤ n' ∧ v31 = .int .i64 (j : Int) ∧ v5 = .int .i64 le ∧ Hid (lrow E R C i (lst E R C i).used (lst E R C i).left l = lrow E R C i (lst E R C i).used (lst E R C i).left (l.drop j)) ∧ Hid (RW w #[.int .i64 (R : Int), .int .i64 (C : Int), .slice (some ⟨gE, oE, none⟩) R cE] R C gO gC (lto E R C i (i + 1)) (lst E R C i).used wr)) (fun _ j _ => n' - (intOf j).toNat)
      case atStart => exact ⟨0, by omega, rfl, rfl, Lib.hid rfl, hL5⟩
      case round =>
        clear hL5
        obtain ⟨j, hj, rfl, rfl, hdr, hL⟩ := hrel
        by_cases hjl : j < n'
        · obtain ⟨gl, ol, k, hA', hk, hck⟩ := (hbw.out _ hL.out.1).cell hjl
          have hkC : k < C := hll k (List.mem_of_getElem? hk)
          have hd : l.drop j = k :: l.drop (j + 1) := by
            have h1 := (List.getElem?_eq_some_iff.1 hk).1
            rw [List.drop_eq_getElem_cons h1]
            congr 1
            exact (List.getElem?_eq_some_iff.1 hk).2
          rw [hd] at hdr
          clear hd
          subst hA'
          have cUk := hL.out.2.2.cell hkC
          have fUk := hL.out.2.2.frozen k
          have hkCi : (k : Int) < C := by omega
          cases hus : (lst E R C i).used k with
          | true =>
            rw [hus] at cUk
            have hdr2 : Hid (lrow E R C i (lst E R C i).used (lst E R C i).left l = lrow E R C i (lst E R C i).used (lst E R C i).left (l.drop (j + 1))) := by
              show _ = _
              rw [hdr.out, lrow, if_pos hus]
            have hus' := Lib.hid hus
            clear hus
            go_wp2_with fail
            exact ⟨⟨j + 1, by omega, by go_num, rfl, hdr2, hL⟩, by simp [intOf]; omega⟩
          | false =>
            rw [hus] at cUk
            have hL6 := Lib.hid (hL.out.setC hgC1 hne k true)
            obtain ⟨cq, hcq⟩ : ∃ cq, cq = sz E (fun c => !(upd (lst E R C i).used k true) c) (fun r => decide (i + 1 ≤ r)) R C := ⟨_, rfl⟩
            have hcql : cq ≤ R := by rw [hcq]; exact cnt_le _ _
            have hcqp : Hid (cq = sz E (fun c => !(upd (lst E R C i).used k true) c) (fun r => decide (i < r)) R C) := hcq
            have hus' := Lib.hid hus
            have hcq' := Lib.hid hcq
            clear hus hcq
            go_upto_region 13 with fail
            obtain ⟨w6, hw6⟩ : ∃ w6, w6 = wr.setCell ⟨gC, k, none⟩ (.bool true) := ⟨_, rfl⟩
            rw [← hw6] at hL6 ⊢
            clear hw6 cUk fUk hck hL
            obtain ⟨m0, m1, m2⟩ := cells3 hL6.out.1.b0
            have hre0 := (ref_rest R C E hI'.out B (some ⟨gE, oE, none⟩) cE w6 (Nat.le_trans hB hL6.out.1.1.size) (hN.below (hL6.out.1.1.mono hB)) (i + 1) gC (by omega) _ hL6.out.2.2)
            rw [← hcq'.out, show ((i + 1 : Nat) : Int) = (i : Int) + 1 by omega] at hre0
            have hre := Lib.hid hre0
            clear hre0
            by_cases hq : (cq : Int) = le - 1
            · have hq' : ((cq : Int) == le - 1) = true := by simpa using hq
              have hdr2 : Hid (lrow E R C i (lst E R C i).used (lst E R C i).left l = some k) := by
                show _ = _
                rw [hdr.out, lrow, if_neg (by rw [hus'.out]; simp), if_pos]
                rw [← hcqp.out, ← hle'.out]
                exact hq
              have hls : Hid (lst E R C (i + 1) = ⟨upd (lst E R C i).out i (k : Int), upd (lst E R C i).used k true, (lst E R C i).left - 1⟩) := by
                show _ = _
                rw [lst, hEi'.out, hdr2.out]
              have hq2 := Lib.hid hq
              clear hq
              go_upto_region 14 with (go_at_call 63; (with_reducible refine hre.out.mono ?_); rintro e w7 ⟨rfl, hb7⟩)
              have hL7 := Lib.hid (hL6.out.call hb7)
              clear hL6 hb7 hre m0 m1 m2
              have hcO : w7.cell? ⟨gO, i, none⟩ = some (.int .i64 (lto E R C i (i + 1) i)) := hL7.out.2.1.cell hlt
              have hfO := hL7.out.2.1.frozen i
              go_wp2_with fail
              refine ⟨⟨i + 1, by omega, by go_num, by rw [hls.out, hle'.out], ?_⟩, by simp [intOf]; omega⟩
              rw [hls.out]
              refine (hL7.out.setO hgO1 hne i (k : Int)).congr (fun x hx => ?_) (fun x hx => rfl)
              unfold upd lto
              by_cases e : x = i
              · rw [if_pos e, if_pos (by omega), hls.out]
                exact (if_pos e).symm
              · rw [if_neg e, hls.out]
                by_cases e2 : x < i + 1
                · rw [if_pos e2, if_pos e2]
                  exact (if_neg e).symm
                · rw [if_neg e2, if_neg e2]
            · have hq' : ((cq : Int) == le - 1) = false := by simpa using hq
              have hdr2 : Hid (lrow E R C i (lst E R C i).used (lst E R C i).left l = lrow E R C i (lst E R C i).used (lst E R C i).left (l.drop (j + 1))) := by
                show _ = _
                rw [hdr.out, lrow, if_neg (by rw [hus'.out]; simp), if_neg]
                rw [← hcqp.out, ← hle'.out]
                exact hq
              have hq2 := Lib.hid hq
              clear hq
              go_upto_region 16 with (go_at_call 63; (with_reducible refine hre.out.mono ?_); rintro e w7 ⟨rfl, hb7⟩)
              have hL7 := Lib.hid (hL6.out.call hb7)
              clear hL6 hb7 hre m0 m1 m2
              have cUk := hL7.out.2.2.cell hkC
              have fUk := hL7.out.2.2.frozen k
              go_wp2_with fail
              refine ⟨⟨j + 1, by omega, by go_num, rfl, hdr2, ?_⟩, by simp [intOf]; omega⟩
              refine (hL7.out.setC hgC1 hne k false).congr (fun x hx => rfl) (fun x hx => ?_)
              unfold upd
              by_cases e : x = k
              · rw [if_pos e, e, hus'.out]
              · rw [if_neg e, if_neg e]
        · have hjn : j = n' := by omega
          have hdn : l.drop j = [] := List.drop_eq_nil_of_le (by have := hlen'.out; omega)
          rw [hdn] at hdr
          have hls : Hid (lst E R C (i + 1) = lst E R C i) := by
            show _ = _
            rw [lst, hEi'.out, hdr.out, lrow]
          go_wp2_with fail
          refine ⟨⟨i + 1, by omega, by go_num, by rw [hls.out, hle'.out], ?_⟩, by simp [intOf]; omega⟩
          show RW _ _ _ _ _ _ _ _ _
          unfold lto
          rw [hls.out]
          exact hL.out
    · have hin : i = R := by omega
      subst hin
      have hres : Hid (RF wr gO i (lst E i C i).out) := RF.congr hLW.out.2.1 (fun x hx => by simp [lto, hx])
      go_wp2_with fail
      go_ret
      exact ⟨gO, by omega, rfl, hres.out, hLW.out.1.1⟩

end Go.Proofs.Ytjbhnfejpgjghaa

/- The reference's Maximum and numbers. -/
namespace Go.Proofs.Ytjbhnfejpgjghaa
open Go.RowKit
set_option linter.unusedSimpArgs false
set_option linter.unusedVariables false

set_option maxRecDepth 100000 in
theorem ref_maximum (rows cols : Int) (A : Option Addr) (n c : Nat) (ls : List (List Int)) (w : World) (hL : L2 w A n c ls) (hr : In64 rows) (hc : In64 cols) :
    Calls Try.prog 24 #[.agg #[.int .i64 rows, .int .i64 cols, .slice A n c]] w (PMax rows cols ls w) := by
  have hO := Own.one w 33 #[.int .i64 rows, .int .i64 cols, .slice A n c]
  have hV := ref_validate rows cols A n c ls _ (hL.below hO.1 (Nat.le_refl _)) hr hc
  have hO' := Lib.hid hO
  rcases vErr_two rows cols ls with h0 | h1
  · rw [h0] at hV
    have hV' := Lib.hid hV
    obtain ⟨e1, e2, hI, hnn⟩ := inc_of h0
    have hN := n2_of hL hnn
    have hS : Hid (maxS rows cols ls = ((List.range rows.toNat).map (lst (nE ls) rows.toNat cols.toNat rows.toNat).out, 0)) := if_pos h0
    unfold PMax
    obtain ⟨S, hS2⟩ : ∃ S, S = maxS rows cols ls := ⟨_, rfl⟩
    rw [← hS2] at hS ⊢
    obtain ⟨R, hR⟩ : ∃ R, R = rows.toNat := ⟨_, rfl⟩
    obtain ⟨C, hC⟩ : ∃ C, C = cols.toNat := ⟨_, rfl⟩
    rw [← hR, ← hC] at hS hI
    rw [← hR] at e1
    rw [← hC] at e2
    have hI' := Lib.hid hI
    have hR64 := hI.1
    have hnR : n = R := by have := hN.1; have := hI.2.2.1; omega
    clear hV hI hS2 hR hC h0
    subst e1 e2 hnR
    go_enter Try.func24, Try.ntmps24
    go_wp2_with (first
      | (go_at_call 28; (with_reducible refine hV'.out.mono ?_); rintro e w2 ⟨rfl, hb2⟩; have hO2 := Lib.hid (hO'.out.call hb2); obtain ⟨m0, m1, m2⟩ := cells3 hO2.out.b0)
      | (go_at_call 54; refine (ref_least n C (nE ls) hI'.out w.heap.size A c _ hO2.out.1.size (hN.below hO2.out.1)).mono ?_; rintro e w3 ⟨g, hg, rfl, hrf, hb3⟩))
    go_ret2
    exact ⟨_, _, _, _, _, rfl, hrf.il (by omega), hS, (hO2.out.call hb3).1⟩
  · rw [h1] at hV
    have hV' := Lib.hid hV
    have hS : Hid (maxS rows cols ls = ([], 1)) := if_neg (by rw [h1]; omega)
    clear hV h1
    unfold PMax
    obtain ⟨S, hS2⟩ : ∃ S, S = maxS rows cols ls := ⟨_, rfl⟩
    rw [← hS2] at hS ⊢
    clear hS2
    go_enter Try.func24, Try.ntmps24
    go_wp2_with (first
      | (go_at_call 28; (with_reducible refine hV'.out.mono ?_); rintro e w2 ⟨rfl, hb2⟩; have hO2 := Lib.hid (hO'.out.call hb2)))
    go_ret2
    exact ⟨_, _, _, _, _, rfl, IL.nil _, hS, hO2.out.1⟩

def PNb (w : World) (l : List Int) (e : Ending) (w' : World) : Prop :=
  ∃ (A : Option Addr) (n c : Nat), e = .returned (.slice A n c) ∧ IL w' A n c l ∧ Below w.heap.size w w'

set_option maxRecDepth 100000 in
set_option maxHeartbeats 1000000 in
theorem ref_numbers (g N : Nat) (hN : N ≤ 64) (f : Nat → Bool) (is : Bool) (w : World) (hf : RO w g N f) :
    Calls Try.prog 56 #[.slice (some ⟨g, 0, none⟩) N N, .bool is] w (PNb w (shl (fun i => f i == is) N)) := by
  have hf0 := Lib.hid hf
  have hb0 : Hid (Below w.heap.size w w) := Below.refl _ _
  obtain ⟨s, hs⟩ : ∃ s, s = fun i => f i == is := ⟨_, rfl⟩
  have hst : Hid (RowI w w.heap.size (.slice none 0 0) (shl s 0)) := RowI.nil _ _
  rw [← hs]
  have hs' := Lib.hid hs
  clear hs
  go_enter Try.func56, Try.ntmps56
  go_wp2_with fail
  go_loopw [5, 10] (fun v5 v10 wr => ∃ i : Nat, i ≤ N ∧ v10 = .int .i64 (i : Int) ∧ Hid (RowI wr w.heap.size v5 (shl s i)) ∧ Hid (Below w.heap.size w wr)) (fun _ i _ => N - (intOf i).toNat)
  case atStart => exact ⟨0, by omega, rfl, hst, hb0⟩
  case round =>
    clear hst hb0
    obtain ⟨i, hi, rfl, hR, hb⟩ := hrel
    by_cases hin : i < N
    · have cFi := (hf0.out.call hb.out).cell hin
      have hps := shl_succ s i
      have hpl := shl_len s i
      have hsi : s i = (f i == is) := by rw [hs'.out]
      cases hq : (f i == is)
      · rw [hsi, hq] at hps
        have hps' : Hid (shl s (i + 1) = shl s i) := by show _ = _; rw [hps]; simp
        clear hps hsi
        go_wp2_with fail
        go_roundw
        case rel => exact ⟨i + 1, by omega, by go_num, by rw [hps'.out]; exact hR, hb⟩
        case measure => simp [intOf]; omega
      · rw [hsi, hq] at hps
        have hps' : Hid (shl s (i + 1) = shl s i ++ [(i : Int)]) := by show _ = _; rw [hps]; simp
        clear hps hsi
        go_upto_region 6 with fail
        have hbs := hb.out.size
        have hba : Below wr.heap.size wr (wr.alloc (.cells #[.int .i64 (i : Int)] 3)) := (Below.refl _ _).alloc (Nat.le_refl _) _
        go_wp2_with (at_builtin; refine wpList_app rfl _ _ rfl w.heap.size _ _ rfl (hR.out.more _) (by omega) (by simp; omega) ⟨wr.heap.size, 0, none⟩ 1 (i : Int) rfl (cell_one_new _ _ _) ?_; intro v' w9 hr9 hg9 hat9)
        have hb9 : Hid (Below w.heap.size w w9) := (hb.out.trans (hba.mono hbs)).grown hg9 (Nat.le_trans hbs hba.size) (fun b hq => (hR.out.at hq).1)
        go_roundw
        case rel => exact ⟨i + 1, by omega, by go_num, by rw [hps'.out]; exact hr9, hb9⟩
        case measure => simp [intOf]; omega
    · have hin' : i = N := by omega
      subst hin'
      have hsl := shl_len s i
      obtain ⟨A, n, c, rfl, hil⟩ := hR.out.il (by omega)
      have hil' := Lib.hid hil
      clear hil
      go_wp2_with fail
      go_ret
      exact ⟨_, _, _, rfl, hil'.out, hb.out⟩

end Go.Proofs.Ytjbhnfejpgjghaa
