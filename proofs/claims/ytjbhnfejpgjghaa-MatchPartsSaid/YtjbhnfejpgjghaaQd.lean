/- reachedRows. -/
import Derived.Test.YtjbhnfejpgjghaaQc
namespace Go.Proofs.Ytjbhnfejpgjghaa
open Go.RowKit
set_option linter.unusedSimpArgs false
set_option linter.unusedVariables false

/-- the call's own boxes ahead of the closure -/
structure RB (w : World) (vm vp : Array Value) (s : Nat) (wr : World) : Prop where
  bM : Blk wr w.heap.size 33 vm
  bP : Blk wr (w.heap.size + 1) 62 vp
  bQ : Blk wr (w.heap.size + 1 + 1) 55 #[.int .u64 0, .int .u64 0]
  bR : Blk wr (w.heap.size + 1 + 1 + 1) 55 #[.int .u64 0, .int .u64 0]
  bC : Blk wr (w.heap.size + 1 + 1 + 1 + 1) 55 #[.int .u64 (s : Int), .int .u64 0]
  lo : Below w.heap.size w wr
theorem RB.call {w : World} {vm vp : Array Value} {s : Nat} {wr w' : World} (h : RB w vm vp s wr) (hb : Below wr.heap.size wr w') : RB w vm vp s w' :=
  ⟨h.bM.call hb, h.bP.call hb, h.bQ.call hb, h.bR.call hb, h.bC.call hb, h.lo.trans (hb.mono h.lo.size)⟩
theorem RB.set {w : World} {vm vp : Array Value} {s : Nat} {wr : World} (h : RB w vm vp s wr) (t : Nat) : RB w vm vp t ((wr.setCell ⟨w.heap.size + 1 + 1 + 1 + 1, 0, none⟩ (.int .u64 (t : Int))).setCell ⟨w.heap.size + 1 + 1 + 1 + 1, 1, none⟩ (.int .u64 0)) := by
  have hf : Fr [w.heap.size + 1 + 1 + 1 + 1] wr ((wr.setCell ⟨w.heap.size + 1 + 1 + 1 + 1, 0, none⟩ (.int .u64 (t : Int))).setCell ⟨w.heap.size + 1 + 1 + 1 + 1, 1, none⟩ (.int .u64 0)) := ((Fr.refl _ _).set (by simp) _).set (by simp) _
  exact ⟨hf.blk h.bM (by simp; omega), hf.blk h.bP (by simp), hf.blk h.bQ (by simp), hf.blk h.bR (by simp), h.bC.setP _ _, h.lo.trans (hf.below h.lo.size (by simp; omega))⟩

theorem bits_zero {s : Nat} (h : s < 18446744073709551616) (h0 : ∀ x, x < 64 → s.testBit x = false) : s = 0 := by
  apply Nat.eq_of_testBit_eq
  intro i
  rw [Nat.zero_testBit]
  by_cases hi : i < 64
  · exact h0 i hi
  · exact Nat.testBit_lt_two_pow (Nat.lt_of_lt_of_le (show s < 2 ^ 64 from h) (Nat.pow_le_pow_right (by omega) (by omega)))

theorem eq_bits (a b c d : Int) (w : World) : (Op.equalIn 10000 55 (.agg #[.int .u64 a, .int .u64 b]) (.agg #[.int .u64 c, .int .u64 d])).run Try.prog w = .ok (a == c && b == d) w := by
  have u3 := Try.underlying53
  have a3 := Try.isAgg53
  have z3 := Try.sizeOf53
  rw [show (10000 : Nat) = 9999 + 1 from rfl, Op.equalIn]
  simp only [Sem.run_bind, run_underlying Try.underlying55, Result.andThen_ok]
  simp only [Std.Legacy.Range.forIn_eq_forIn_range', Std.Legacy.Range.size, Nat.sub_zero, Nat.add_sub_cancel, Nat.div_one, List.range'_succ, List.range'_zero, List.forIn_cons, List.forIn_nil]
  go_simp
  by_cases h1 : a = c <;> by_cases h2 : b = d <;> simp [h1, h2]

def PR (w : World) (rs : Nat → Bool) (e : Ending) (w' : World) : Prop := ∃ s s1 : Nat, s < 18446744073709551616 ∧ (∀ k, k < 64 → s.testBit k = rs k) ∧ e = .returned (.agg #[.int .u64 (s : Int), .int .u64 (s1 : Int)]) ∧ Below w.heap.size w w'

/-- the free columns under way -/
def D1 (w : World) (vm vp : Array Value) (col : Nat → Int) (k : Nat) (wr : World) : Prop := ∃ s : Nat, s < 18446744073709551616 ∧ (∀ x, x < 64 → s.testBit x = (decide (x < k) && decide (col x < 0))) ∧ RB w vm vp s wr

def zz (n gG gRow gCol B : Nat) (AE : Option Addr) (cE R C : Nat) (E : List (List Nat)) (row col : Nat → Int) : CT := ⟨n + 1 + 1 + 1 + 1, n, n + 1 + 1 + 1, n + 1, gG, gRow, gCol, B, AE, cE, R, C, E, row, col⟩
/-- all columns under way -/
structure D2 (z : CT) (w : World) (k : Nat) (wr : World) : Prop where
  cs : CS z (goA z.E z.C z.row z.col k) wr
  bQ : Blk wr (w.heap.size + 1 + 1) 55 #[.int .u64 0, .int .u64 0]
  lo : Below w.heap.size w wr
theorem go_reach' (n gG gRow gCol B : Nat) (AE : Option Addr) (cE R C : Nat) (E : List (List Nat)) (row col : Nat → Int) (hz : (zz n gG gRow gCol B AE cE R C E row col).Fine) (f k : Nat) (st : CR) (w : World) (hk : k < C) (hu : uns C st.cs < f) (h : CS (zz n gG gRow gCol B AE cE R C E row col) st w) :
    Calls Try.prog 59 #[.int .i64 (k : Int), .pointer (some ⟨n + 1 + 1 + 1 + 1, 0, none⟩), .pointer (some ⟨n, 0, none⟩), .pointer (some ⟨n + 1 + 1 + 1, 0, none⟩), .pointer (some ⟨n + 1, 0, none⟩), .pointer (some ⟨gG, 0, none⟩)] w (PC (zz n gG gRow gCol B AE cE R C E row col) w (goC E row f k st)) := go_reach (zz n gG gRow gCol B AE cE R C E row col) hz f k st w hk hu h

set_option maxRecDepth 100000 in
set_option maxHeartbeats 1000000 in
theorem m_reached {R C : Nat} {E : List (List Nat)} (hI : Inc R C E) (row col : Nat → Int) (hrl : ∀ r, r < R → 0 ≤ row r → (row r).toNat < C) (B : Nat) (AE : Option Addr) (cE : Nat) (gRow gCol : Nat) (w : World) (hB : B ≤ w.heap.size) (hN : N2 B w AE R cE E) (hr : RF w gRow R row) (hc : RF w gCol C col) :
    Calls Try.prog 45 #[.agg #[.int .i64 (R : Int), .int .i64 (C : Int), .slice AE R cE], .agg #[.slice (some ⟨gRow, 0, none⟩) R R, .slice (some ⟨gCol, 0, none⟩) C C]] w (PR w (goA E C row col C).rs) := by
  have hu := Try.underlying55
  have hu2 := Try.underlying62
  have hu3 := Try.underlying33
  have heq := eq_bits
  have hmf : ∀ (fn : Fn) (first cap : Array Value) (w : World), (Instr.makeFunc fn first cap).run Try.prog w = .ok (.func fn first cap) w := fun _ _ _ _ => rfl
  have hC64 := hI.2.1
  have hR64 := hI.1
  have hO : Own w [(33, #[.int .i64 (R : Int), .int .i64 (C : Int), .slice AE R cE]), (62, #[.slice (some ⟨gRow, 0, none⟩) R R, .slice (some ⟨gCol, 0, none⟩) C C]), (55, #[.int .u64 0, .int .u64 0]), (55, #[.int .u64 0, .int .u64 0]), (55, #[.int .u64 0, .int .u64 0])] (((((w.alloc (.cells #[.int .i64 (R : Int), .int .i64 (C : Int), .slice AE R cE] 33)).alloc (.cells #[.slice (some ⟨gRow, 0, none⟩) R R, .slice (some ⟨gCol, 0, none⟩) C C] 62)).alloc (.cells #[.int .u64 0, .int .u64 0] 55)).alloc (.cells #[.int .u64 0, .int .u64 0] 55)).alloc (.cells #[.int .u64 0, .int .u64 0] 55)) := ((Own.three w _ _ _ _ _ _).alloc (by simp) _ _).alloc (by simp) _ _
  have hRB : RB w #[.int .i64 (R : Int), .int .i64 (C : Int), .slice AE R cE] #[.slice (some ⟨gRow, 0, none⟩) R R, .slice (some ⟨gCol, 0, none⟩) C C] 0 _ := ⟨hO.2.2 0 _ _ rfl, hO.2.2 1 _ _ rfl, hO.2.2 2 _ _ rfl, hO.2.2 3 _ _ rfl, hO.2.2 4 _ _ rfl, hO.1⟩
  obtain ⟨w5, hw5⟩ : ∃ w5, w5 = (((((w.alloc (.cells #[.int .i64 (R : Int), .int .i64 (C : Int), .slice AE R cE] 33)).alloc (.cells #[.slice (some ⟨gRow, 0, none⟩) R R, .slice (some ⟨gCol, 0, none⟩) C C] 62)).alloc (.cells #[.int .u64 0, .int .u64 0] 55)).alloc (.cells #[.int .u64 0, .int .u64 0] 55)).alloc (.cells #[.int .u64 0, .int .u64 0] 55)) := ⟨_, rfl⟩
  rw [← hw5] at hRB
  have hD : D1 w #[.int .i64 (R : Int), .int .i64 (C : Int), .slice AE R cE] #[.slice (some ⟨gRow, 0, none⟩) R R, .slice (some ⟨gCol, 0, none⟩) C C] col 0 w5 := ⟨0, by omega, fun x _ => by simp, hRB⟩
  have cM1 := hRB.bM.cell 1
  have hr' := Lib.hid hr
  have hc' := Lib.hid hc
  have hN' := Lib.hid hN
  clear hO hRB hr hc hN
  go_enter Try.func45, Try.ntmps45
  go_upto_region 2 with fail
  rw [← hw5]
  clear hw5
  go_wp2_with fail
  go_loopw [12] (fun v12 wr => ∃ k : Nat, k ≤ C ∧ v12 = .int .i64 k ∧ D1 w #[.int .i64 (R : Int), .int .i64 (C : Int), .slice AE R cE] #[.slice (some ⟨gRow, 0, none⟩) R R, .slice (some ⟨gCol, 0, none⟩) C C] col k wr) (fun i _ => C - (intOf i).toNat)
  case atStart => exact ⟨0, by omega, rfl, hD⟩
  case round =>
    clear hD cM1
    obtain ⟨k, hk, rfl, s, hs64, hsb, hb⟩ := hrel
    by_cases hkC : k < C
    · have hc2 := hc'.out.call hb.lo
      have cP1 := hb.bP.cell 1
      have cK := hc2.cell hkC
      have hkC' : (k : Int) < C := by omega
      by_cases hneg : col k < 0
      · have hd : decide (col k < 0) = true := by simpa using hneg
        have cC0 := hb.bC.cell 0
        have cC1 := hb.bC.cell 1
        have hsb' := Lib.hid hsb
        clear hsb
        go_wp2_with (first
          | (go_at_call 34; refine (m_with s 0 k _ (by omega) hs64).mono ?_; rintro e w6 ⟨rfl, hb6⟩; have h6 := hb.call hb6; have f6 := h6.bC.frozen 0; obtain ⟨c6, c61, f61⟩ := wcell h6.bC (s ||| 2 ^ k)))
        refine round_next hkC ⟨s ||| 2 ^ k, or_bit hs64 (by omega), fun x hx => ?_, h6.set _⟩
        rw [testBit_or, hsb'.out x hx]
        by_cases e : x = k
        · subst e; simp [hneg]
        · rw [if_neg e]
          have : decide (x < k + 1) = decide (x < k) := by rw [decide_eq_decide]; omega
          rw [this]
      · have hd : decide (col k < 0) = false := by simpa using hneg
        have hsb' := Lib.hid hsb
        clear hsb
        go_wp2_with fail
        refine round_next hkC ⟨s, hs64, fun x hx => ?_, hb⟩
        rw [hsb'.out x hx]
        by_cases e : x = k
        · subst e; simp [hneg]
        · have : decide (x < k + 1) = decide (x < k) := by rw [decide_eq_decide]; omega
          rw [this]
    · have hkC' : k = C := by omega
      subst hkC'
      by_cases hall : ∀ x, x < k → ¬ col x < 0
      · have hs0 : s = 0 := bits_zero hs64 fun x hx => by
          rw [hsb x hx]
          by_cases h1 : x < k
          · have := hall x h1; simp [h1, this]
          · simp [h1]
        subst hs0
        have hgo : (goA E k row col k).rs = fun _ => false := by rw [goA_none k hall]
        have cC0 := hb.bC.cell 0
        have cC1 := hb.bC.cell 1
        have cR0 := hb.bR.cell 0
        have cR1 := hb.bR.cell 1
        obtain ⟨q0, q1, q2, q3, q4, q5⟩ := blkP hb.bQ
        have hfin : PR w (goA E k row col k).rs (.returned (.agg #[.int .u64 0, .int .u64 0])) ((wr.setCell ⟨w.heap.size + 1 + 1, 0, none⟩ (.int .u64 0)).setCell ⟨w.heap.size + 1 + 1, 1, none⟩ (.int .u64 0)) := by
          rw [hgo]
          refine ⟨0, 0, by omega, fun k _ => by simp, rfl, ?_⟩
          exact (hb.lo.setCell (by show _ ≤ w.heap.size + 1 + 1; omega) _).setCell (by show _ ≤ w.heap.size + 1 + 1; omega) _
        have b1 := (hb.bQ.setP (.int .u64 0) (.int .u64 0)).cell 1
        have b0 := (hb.bQ.set 0 (.int .u64 0)).cell 0
        simp at b0 b1
        have hsb' := Lib.hid hsb
        have hfin' := Lib.hid hfin
        clear hsb hgo hall hfin
        go_wp2_with fail
        exact bodyPost_ret (v := .agg #[.int .u64 0, .int .u64 0]) (by simp [results, Try.results45, go_sem, b0, b1]) rfl hfin'.out
      · have hs0 : ((s : Int) == 0) = false := by
          by_cases e : s = 0
          · exfalso
            subst e
            apply hall
            intro x hx hn
            have := hsb x (by omega)
            rw [Nat.zero_testBit] at this
            simp [hx, hn] at this
          · simp; omega
        have cC0 := hb.bC.cell 0
        have cC1 := hb.bC.cell 1
        obtain ⟨q0, q1, q2, q3, q4, q5⟩ := blkP hb.bC
        have h1 : RB w _ _ 0 ((wr.setCell ⟨w.heap.size + 1 + 1 + 1 + 1, 0, none⟩ (.int .u64 0)).setCell ⟨w.heap.size + 1 + 1 + 1 + 1, 1, none⟩ (.int .u64 0)) := hb.set 0
        have h5 := hb.bC.lt
        have hlow := hb.lo.size
        have hbel : Below ((wr.setCell ⟨w.heap.size + 1 + 1 + 1 + 1, 0, none⟩ (.int .u64 0)).setCell ⟨w.heap.size + 1 + 1 + 1 + 1, 1, none⟩ (.int .u64 0)).heap.size ((wr.setCell ⟨w.heap.size + 1 + 1 + 1 + 1, 0, none⟩ (.int .u64 0)).setCell ⟨w.heap.size + 1 + 1 + 1 + 1, 1, none⟩ (.int .u64 0)) (((wr.setCell ⟨w.heap.size + 1 + 1 + 1 + 1, 0, none⟩ (.int .u64 0)).setCell ⟨w.heap.size + 1 + 1 + 1 + 1, 1, none⟩ (.int .u64 0)).alloc (.cells #[.func (.func 59) #[] #[.pointer (some ⟨w.heap.size + 1 + 1 + 1 + 1, 0, none⟩), .pointer (some ⟨w.heap.size, 0, none⟩), .pointer (some ⟨w.heap.size + 1 + 1 + 1, 0, none⟩), .pointer (some ⟨w.heap.size + 1, 0, none⟩), .pointer (some ⟨wr.heap.size, 0, none⟩)]] 65)) := (Below.refl _ _).alloc (Nat.le_refl _) _
        have h2 := h1.call hbel
        have hrl' : gRow < w.heap.size := hr'.out.lt
        have hcl' : gCol < w.heap.size := hc'.out.lt
        have hz : CT.Fine (zz w.heap.size wr.heap.size gRow gCol B AE cE R k E row col) := ⟨hI, ⟨by show B ≤ w.heap.size + 1 + 1 + 1 + 1; omega, by show B ≤ w.heap.size + 1 + 1 + 1; omega⟩, by show w.heap.size + 1 + 1 + 1 + 1 ≠ w.heap.size + 1 + 1 + 1; omega, fun g hg => by
          have hg' : g = w.heap.size ∨ g = w.heap.size + 1 ∨ g = wr.heap.size ∨ g = gRow ∨ g = gCol := by simpa [zz] using hg
          show g ∉ [w.heap.size + 1 + 1 + 1 + 1, w.heap.size + 1 + 1 + 1]
          simp
          omega, hrl⟩
        have hD2 : D2 (zz w.heap.size wr.heap.size gRow gCol B AE cE R k E row col) w 0 (((wr.setCell ⟨w.heap.size + 1 + 1 + 1 + 1, 0, none⟩ (.int .u64 0)).setCell ⟨w.heap.size + 1 + 1 + 1 + 1, 1, none⟩ (.int .u64 0)).alloc (.cells #[.func (.func 59) #[] #[.pointer (some ⟨w.heap.size + 1 + 1 + 1 + 1, 0, none⟩), .pointer (some ⟨w.heap.size, 0, none⟩), .pointer (some ⟨w.heap.size + 1 + 1 + 1, 0, none⟩), .pointer (some ⟨w.heap.size + 1, 0, none⟩), .pointer (some ⟨wr.heap.size, 0, none⟩)]] 65)) := ⟨⟨h2.bM, h2.bP, Blk.newE (by simp [zz, World.setCell]), hN'.out.below (h2.lo.mono hB), hr'.out.call h2.lo, hc'.out.call h2.lo, Nat.le_trans hB h2.lo.size, ⟨0, 0, by omega, h2.bC, fun _ _ => by simp [goA]⟩, ⟨0, 0, by omega, h2.bR, fun _ _ => by simp [goA]⟩⟩, h2.bQ, h2.lo⟩
        have hrest := Lib.hid hD2
        have hz' := Lib.hid hz
        clear hsb hall h1 h2 hbel hD2 hb hz hrl' hcl'
        go_upto_region 13 with fail
        obtain ⟨w10, hw10⟩ : ∃ w10, w10 = (((wr.setCell ⟨w.heap.size + 1 + 1 + 1 + 1, 0, none⟩ (.int .u64 0)).setCell ⟨w.heap.size + 1 + 1 + 1 + 1, 1, none⟩ (.int .u64 0)).alloc (.cells #[.func (.func 59) #[] #[.pointer (some ⟨w.heap.size + 1 + 1 + 1 + 1, 0, none⟩), .pointer (some ⟨w.heap.size, 0, none⟩), .pointer (some ⟨w.heap.size + 1 + 1 + 1, 0, none⟩), .pointer (some ⟨w.heap.size + 1, 0, none⟩), .pointer (some ⟨wr.heap.size, 0, none⟩)]] 65)) := ⟨_, rfl⟩
        rw [← hw10] at hrest ⊢
        clear hw10 q0 q1 q2 q3 q4 q5 cC0 cC1
        obtain ⟨gG, hgG⟩ : ∃ gG, gG = wr.heap.size := ⟨_, rfl⟩
        rw [← hgG] at hrest hz' ⊢
        clear hgG
        have cM1 : w10.cell? ⟨w.heap.size, 1, none⟩ = some (.int .i64 (k : Int)) := hrest.out.cs.bM.cell 1
        go_wp2_with fail
        go_loopw [33] (fun v33 w2 => ∃ j : Nat, j ≤ k ∧ v33 = .int .i64 j ∧ Hid (D2 (zz w.heap.size gG gRow gCol B AE cE R k E row col) w j w2)) (fun i _ => k - (intOf i).toNat)
        case atStart => exact ⟨0, by omega, rfl, hrest⟩
        case round =>
          clear hrest cM1
          obtain ⟨j, hj, rfl, hd⟩ := hrel
          by_cases hjk : j < k
          · have cP1 : wr.cell? ⟨w.heap.size + 1, 1, none⟩ = some (.slice (some ⟨gCol, 0, none⟩) k k) := hd.out.cs.bP.cell 1
            have cJ : wr.cell? ⟨gCol, j, none⟩ = some (.int .i64 (col j)) := hd.out.cs.col.cell hjk
            have cG : wr.cell? ⟨gG, 0, none⟩ = some (.func (.func 59) #[] #[.pointer (some ⟨w.heap.size + 1 + 1 + 1 + 1, 0, none⟩), .pointer (some ⟨w.heap.size, 0, none⟩), .pointer (some ⟨w.heap.size + 1 + 1 + 1, 0, none⟩), .pointer (some ⟨w.heap.size + 1, 0, none⟩), .pointer (some ⟨gG, 0, none⟩)]) := hd.out.cs.bG.cell 0
            have hjk' : (j : Int) < k := by omega
            by_cases hneg : col j < 0
            · have hdn : decide (col j < 0) = true := by simpa using hneg
              have hgoA : Hid (goA E k row col (j + 1) = goC E row (k + 1) j (goA E k row col j)) := by show _ = _; rw [goA, if_pos hneg]
              clear hneg
              go_wp2_with (first
                | (go_at_call 59; refine (go_reach' w.heap.size gG gRow gCol B AE cE R k E row col hz'.out (k + 1) j (goA E k row col j) wr hjk (by have := uns_all k (goA E k row col j).cs; omega) hd.out.cs).mono ?_; rintro e w3 ⟨rfl, hcs3, hf3⟩))
              refine round_next hjk ⟨?_, hf3.blk hd.out.bQ (by simp [CT.xs, zz]), hd.out.lo.trans (hf3.below hd.out.lo.size (by simp [CT.xs, zz]; omega))⟩
              show CS (zz w.heap.size gG gRow gCol B AE cE R k E row col) (goA E k row col (j + 1)) w3
              rw [hgoA.out]
              exact hcs3
            · have hdn : decide (col j < 0) = false := by simpa using hneg
              have hgoA : Hid (goA E k row col (j + 1) = goA E k row col j) := by show _ = _; rw [goA, if_neg hneg]
              clear hneg
              go_wp2_with fail
              refine round_next hjk ⟨?_, hd.out.bQ, hd.out.lo⟩
              show CS (zz w.heap.size gG gRow gCol B AE cE R k E row col) (goA E k row col (j + 1)) wr
              rw [hgoA.out]
              exact hd.out.cs
          · have hjk' : j = k := by omega
            subst hjk'
            obtain ⟨t, t1, ht64, hbR, htr⟩ := hd.out.cs.rs
            have cR0 : wr.cell? ⟨w.heap.size + 1 + 1 + 1, 0, none⟩ = some (.int .u64 (t : Int)) := hbR.cell 0
            have cR1 : wr.cell? ⟨w.heap.size + 1 + 1 + 1, 1, none⟩ = some (.int .u64 (t1 : Int)) := hbR.cell 1
            obtain ⟨q0, q1, q2, q3, q4, q5⟩ := blkP hd.out.bQ
            have b1 := (hd.out.bQ.setP (.int .u64 (t : Int)) (.int .u64 (t1 : Int))).cell 1
            have b0 := (hd.out.bQ.set 0 (.int .u64 (t : Int))).cell 0
            simp at b0 b1
            have hfin : PR w (goA E j row col j).rs (.returned (.agg #[.int .u64 (t : Int), .int .u64 (t1 : Int)])) ((wr.setCell ⟨w.heap.size + 1 + 1, 0, none⟩ (.int .u64 (t : Int))).setCell ⟨w.heap.size + 1 + 1, 1, none⟩ (.int .u64 (t1 : Int))) :=
              ⟨t, t1, ht64, htr, rfl, (hd.out.lo.setCell (by show _ ≤ w.heap.size + 1 + 1; omega) _).setCell (by show _ ≤ w.heap.size + 1 + 1; omega) _⟩
            have hfin' := Lib.hid hfin
            clear hfin htr
            go_wp2_with fail
            exact bodyPost_ret (v := .agg #[.int .u64 (t : Int), .int .u64 (t1 : Int)]) (by simp [results, Try.results45, go_sem, b0, b1]) rfl hfin'.out

end Go.Proofs.Ytjbhnfejpgjghaa
